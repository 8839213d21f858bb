/- Policies: a node's text: brackets, one thing: the walks. -/
import Derived.Test.YtnnhkajjifmlfaaDoorPu
import Derived.Test.YtnnhkajjifmlfaaDoorP9
import Derived.Test.YtnnhkajjifmlfaaDoorShelfC
import Derived.Lib.LaidTab
namespace Go.Proofs.YtnnhkajjifmlfaaDoor.Pl
open Go.RowKit Go.Maps

/-- the node at a tree's top -/
def PT.top : PT → Nat → PN
  | .leaf x, _ => x
  | .not t, b => ⟨7, 0, ⟨#[]⟩, ⟨#[]⟩, ((b + t.size : Nat) : Int) - 1, 0⟩
  | .bin k t u, b => ⟨k, 0, ⟨#[]⟩, ⟨#[]⟩, ((b + t.size : Nat) : Int) - 1, ((b + t.size + u.size : Nat) : Int) - 1⟩
theorem Stands.not {l : List PN} {lo : Nat} {t : PT} (h : Stands l lo (.not t)) : Stands l lo t := by
  obtain ⟨pre, post, h1, h2⟩ := h
  exact ⟨pre, _, by rw [h1, PT.flat, List.append_assoc], h2⟩
theorem Stands.left {l : List PN} {lo : Nat} {k : Int} {t u : PT} (h : Stands l lo (.bin k t u)) : Stands l lo t := by
  obtain ⟨pre, post, h1, h2⟩ := h
  exact ⟨pre, _, by rw [h1, PT.flat, List.append_assoc], h2⟩
theorem Stands.right {l : List PN} {lo : Nat} {k : Int} {t u : PT} (h : Stands l lo (.bin k t u)) : Stands l (lo + t.size) u := by
  obtain ⟨pre, post, h1, h2⟩ := h
  exact ⟨pre ++ t.flat lo, _, by rw [h1, PT.flat]; simp only [List.append_assoc]; rfl, by rw [List.length_append, t.flat_len, h2]⟩
theorem Stands.top {l : List PN} {lo : Nat} {t : PT} (h : Stands l lo t) (hi : lo + t.size - 1 < l.length) : l[lo + t.size - 1] = t.top lo := by
  obtain ⟨pre, post, h1, h2⟩ := h
  have key : ∀ (A : List PN) (y : PN) (B : List PN), l = A ++ y :: B → A.length = lo + t.size - 1 → l[lo + t.size - 1] = y := fun A y B e hA => by
    have : l[lo + t.size - 1]? = some y := by rw [e, List.getElem?_append_right (by omega), hA]; simp
    rw [List.getElem?_eq_getElem hi] at this
    exact Option.some.inj this
  cases t with
  | leaf x => exact key pre x post (by rw [h1]; rfl) (by simp only [PT.size]; omega)
  | not t => exact key (pre ++ t.flat lo) _ post (by rw [h1, PT.flat]; simp only [List.append_assoc]; rfl) (by rw [List.length_append, t.flat_len]; simp only [PT.size]; omega)
  | bin k t u => exact key (pre ++ (t.flat lo ++ u.flat (lo + t.size))) _ post (by rw [h1, PT.flat]; simp only [List.append_assoc]; rfl) (by rw [List.length_append, List.length_append, t.flat_len, u.flat_len]; simp only [PT.size]; omega)
theorem top_n {t : PT} (h : t.ok = true) (lo : Nat) : 0 ≤ (t.top lo).n ∧ (t.top lo).n ≤ 9223372036854775807 := by
  cases t with
  | leaf x =>
    simp only [PT.ok, leafOk, Bool.and_eq_true, Bool.not_eq_true', decide_eq_true_eq] at h
    have hf := fineN_iff h.1.1
    refine ⟨hf.nn, ?_⟩
    have hl := h.1.2
    unfold longN at hl
    simp only [Bool.or_eq_false_iff, Bool.and_eq_false_iff, beq_eq_false_iff_ne, decide_eq_false_iff_not] at hl
    show x.n ≤ _
    by_cases h3 : x.k = 3
    · rcases hl.1.2 with h | h
      · exact absurd h3 h
      · omega
    · by_cases h6 : x.k = 6
      · rcases hl.2 with h | h
        · exact absurd h6 h
        · omega
      · have := hf.n0 h3 h6
        omega
  | not t => exact ⟨Int.le_refl _, by show (0 : Int) ≤ _; omega⟩
  | bin k t u => exact ⟨Int.le_refl _, by show (0 : Int) ≤ _; omega⟩
theorem top_bin {t : PT} (h : t.ok = true) (lo : Nat) : ([8, 9] : List Int).contains (t.top lo).k = t.isBin ∧ ([9] : List Int).contains (t.top lo).k = t.isOr := by
  cases t with
  | leaf x =>
    simp only [PT.ok, leafOk, Bool.and_eq_true, decide_eq_true_eq] at h
    have h7 : x.k < 7 := h.2
    have e : (PT.leaf x).top lo = x := rfl
    rw [e]
    have n8 : x.k ≠ 8 := by omega
    have n9 : x.k ≠ 9 := by omega
    simp [n8, n9, PT.isBin, PT.isOr]
  | not t => exact ⟨rfl, rfl⟩
  | bin k t u =>
    simp only [PT.ok, Bool.and_eq_true, Bool.or_eq_true, beq_iff_eq] at h
    rcases h.1.1 with rfl | rfl <;> exact ⟨rfl, rfl⟩
/-- the table of powers of ten, and it stays -/
def PTw (w : World) : Prop := ∀ W, w.grownBy W none → Lib.TabIs Tryd.prog W "internal/strconv.uint64pow10" .u64 Lib.pow10Tab
theorem PTw.to {w w' : World} (h : PTw w) (hg : w.grownBy w' none) : PTw w' := fun W hW => h W (gb_trans hg hW)
theorem gb_grow2 (w : World) (k : Nat) (os : Array Obj) : w.grownBy (Go.Sort.grow (w.drewN k) os) none := by
  refine ⟨rfl, rfl, rfl, by simp [Go.Sort.grow], fun i hi _ => ?_⟩
  simp only [Go.Sort.grow]
  rw [Array.getElem?_append_left (by exact hi)]
  rfl
def bs (l : List UInt8) : ByteArray := ⟨l.toArray⟩
theorem bs_add (a b : List UInt8) : bs a ++ bs b = bs (a ++ b) := by
  apply ByteArray.ext
  rw [ByteArray.data_append]
  unfold bs
  simp
theorem formatInt_w (n : Int) (h0 : -9223372036854775808 ≤ n) (h1 : n ≤ 9223372036854775807) (w : World) (hT : PTw w) :
    Calls Tryd.prog 95 #[.int .i64 n, .int .i64 10] w fun e w' => e = .returned (.string (bs (Lib.itoa n))) ∧ w.grownBy w' none := by
  refine (Tryd.strconv_FormatInt_10 n h0 h1 w (hT w (gb_refl _ _))).mono ?_
  rintro e w' ⟨rfl, k, os, rfl⟩
  exact ⟨rfl, gb_grow2 w k os⟩
theorem bs_size (l : List UInt8) : (bs l).size = l.length := by show l.toArray.size = _; simp
theorem ba_bs (x : ByteArray) : x = bs x.data.toList := by simp [bs]
theorem add_run {a b c : List UInt8} (h : a ++ b = c) (ha : a.length ≤ 1000000000) (hb : b.length ≤ 1000000000) (W : World) : (Op.stringOp .add (bs a) (bs b)).run Tryd.prog W = .ok (.string (bs c)) W := by
  rw [run_string_add_sum W (bs a) (bs b) (by rw [bs_size, bs_size]; omega), bs_add, h]
/-- what text is to tell at a tree's top -/
def TellT (l : List PN) (lo : Nat) (t : PT) : Prop := ∀ (S : Nat → Prop) (v : Value) (w : World), NodesAt w S v l → (∀ b, S b → b < w.heap.size) → PTw w →
  Calls Tryd.prog 66 #[v, .int .i64 (((lo + t.size : Nat) : Int) - 1)] w fun e w' => e = .returned (.string (bs t.tx)) ∧ w.grownBy w' none
set_option maxRecDepth 100000 in
set_option maxHeartbeats 3200000 in
/-- held: brackets where the kind is one of some -/
theorem held_any {l : List PN} {lo : Nat} {t : PT} (hT : TellT l lo t) (hlen : l.length ≤ 1000000) (htx : t.tx.length ≤ 500000000) (ht : Stands l lo t) (ks : List Int) (p : Bool) (hp : ks.contains (t.top lo).k = p) (hk : ks.length ≤ 2)
    (bk c : Nat) (S : Nat → Prop) (v : Value) (w : World) (h : NodesAt w S v l) (hS : ∀ b, S b → b < w.heap.size) (hP : PTw w) (hb : ∀ j, j < ks.length → w.cell? ⟨bk, 0 + j, none⟩ = some (.int .i64 (ks.getD j 0))) :
    Calls Tryd.prog 111 #[v, .int .i64 (((lo + t.size : Nat) : Int) - 1), .slice (some ⟨bk, 0, none⟩) ks.length c] w fun e w' => e = .returned (.string (bs (par p t.tx))) ∧ w.grownBy w' none := by
  have hC := Lib.hid (Tryd.slices_Contains_int bk 0 ks.length c ks (t.top lo).k w (Nat.le_refl _) (by omega) hb)
  rw [List.take_of_length_le (Nat.le_refl _), hp] at hC
  have hTe := Lib.hid (hT S v w h hS hP)
  have hpos := t.pos
  have hle := ht.len
  have htop := ht.top (by omega)
  obtain ⟨A, c2, rfl, hA⟩ := h
  obtain ⟨b, o, rfl, hSb, hcell⟩ := hA (by omega)
  obtain ⟨c0, _⟩ := hcell (lo + t.size - 1) (by omega)
  rw [htop] at c0
  clear hA hcell hT htop hp hb
  obtain ⟨i, hi⟩ : ∃ i : Nat, lo + t.size = i + 1 := ⟨lo + t.size - 1, by omega⟩
  rw [hi] at hTe hle c0
  have e1 : ((i + 1 : Nat) : Int) - 1 = (i : Int) := by omega
  rw [hi, e1]
  rw [e1] at hTe
  rw [show i + 1 - 1 = i by omega] at c0
  have hiI : (i : Int) < (l.length : Int) := by omega
  generalize (t.top lo).k = kk at *
  have h1 := fun W => add_run (a := [40]) (b := t.tx) (c := 40 :: t.tx) rfl (by simp) (by omega) W
  have h2 := fun W => add_run (a := 40 :: t.tx) (b := [41]) (c := 40 :: (t.tx ++ [41])) rfl (by simp; omega) (by simp) W
  go_enter Tryd.func111, Tryd.ntmps111
  cases p with
  | true =>
    have hR : Hid (par true t.tx = 40 :: (t.tx ++ [41])) := rfl
    rw [hR.out]
    clear hR e1 hi
    generalize bs (40 :: (t.tx ++ [41])) = Z at *
    have e40 : bs [40] = ⟨#[40]⟩ := rfl
    have e41 : bs [41] = ⟨#[41]⟩ := rfl
    rw [e40] at h1
    rw [e41] at h2
    clear e40 e41
    generalize bs (40 :: t.tx) = Y at *
    generalize bs t.tx = X at *
    go_wp2_with (first
      | (go_at_call 139; refine (hC.out).mono ?_; rintro e w1 ⟨rfl, rfl⟩)
      | (go_at_call 66; refine (hTe.out).mono ?_; rintro e w2 ⟨rfl, hg2⟩))
    go_ret
    exact ⟨rfl, hg2⟩
  | false =>
    have hR : Hid (par false t.tx = t.tx) := rfl
    rw [hR.out]
    clear hR e1 hi h1 h2
    generalize bs t.tx = X at *
    go_wp2_with (first
      | (go_at_call 139; refine (hC.out).mono ?_; rintro e w1 ⟨rfl, rfl⟩)
      | (go_at_call 66; refine (hTe.out).mono ?_; rintro e w2 ⟨rfl, hg2⟩))
    go_ret
    exact ⟨rfl, hg2⟩
end Go.Proofs.YtnnhkajjifmlfaaDoor.Pl
