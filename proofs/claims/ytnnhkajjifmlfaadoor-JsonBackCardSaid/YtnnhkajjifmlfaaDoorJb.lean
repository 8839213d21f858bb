/- (*reader).number: it computes numS. -/
import Derived.Test.YtnnhkajjifmlfaaDoorJa
import Derived.Deep.RegionHeld3
import Derived.Deep.DeepCutAuto
import Derived.Deep.CutBlock
import Derived.Defers
import Derived.Deep.LoopGhost
import Derived.Deep.AppendLies
import Derived.Deep.DrawnRows
import Derived.Deep.RegionLaw
import Derived.RegionTactic
import Derived.ChangeAlike
import Derived.BigRegion
/-! (*reader).number: it computes numS. -/

namespace Go.Proofs.YtnnhkajjifmlfaaDoor
open Go.RowKit Go.Maps

set_option maxRecDepth 100000 in
set_option maxHeartbeats 1600000 in
theorem number_any (R : Nat) (s : ByteArray) (σ : PS) (w : World) (h : RD w R s σ) (hp : σ.p ≤ s.size) (hs : s.size ≤ 2000000) (hG : Gv w) (hRg : 6 ≤ R) (he : σ.e = 0) :
    Calls Tryd.prog 84 #[.pointer (some ⟨R, 0, none⟩)] w fun e w' => e = .returned (.agg #[.int .i64 3, .int .i64 (numS s σ).1, .string ⟨#[]⟩, .slice none 0 0, .slice none 0 0]) ∧ RD w' R s (numS s σ).2 ∧ w.grownBy w' (some R) := by
  have hpt := takeS_le (c := 45) hp
  have hpg := takeS_p s σ 45
  have het : (takeS s σ 45).e = 0 := by unfold takeS; split <;> exact he
  have Heq : Hid (takeS s σ 45 = { σ with p := (takeS s σ 45).p }) := by unfold Hid takeS; split <;> rfl
  have hfd : (σ.p : Int) ≤ ((takeS s σ 45).p : Int) := by omega
  have Htake := Lib.hid (take_any R s σ 45 (w.alloc (.cells #[.int .i64 0, .int .i64 0, .string ⟨#[]⟩, .slice none 0 0, .slice none 0 0] 26)) (h.alloc _) hp hs)
  unfold numS
  simp only
  generalize (takeS s σ 45).p = d at *
  have hJ0 := JB.new w (.int .i64 0) (.int .i64 0) (.string ⟨#[]⟩) (.slice none 0 0) (.slice none 0 0)
  have c1 := fun o => (h.alloc o).c1
  have hRl := h.lt
  have hpd := dsk_bd hpt
  go_enter Tryd.func84, Tryd.ntmps84
  go_upto_block 0 with (first
    | (go_at_call 128; refine (Htake.out).mono ?_; rintro e w1 ⟨rfl, hR1, hg1⟩; rw [Heq.out] at hR1; have c11 := hR1.c1; have hsz1 := hg1.size)
    | (go_at_call 81; refine (next_ok R s { σ with p := d } _ he hpt (by exact hR1)).mono ?_; rintro e w2 ⟨rfl, n2, rfl⟩))
  go_cut [] (fun wx => RD wx R s { σ with p := dsk s d } ∧ w1.grownBy wx (some R))
  case first =>
    go_wp2_with fail
    go_loopg [5] (s.size - d) (fun n v wr => ∃ q, d ≤ q ∧ q ≤ s.size ∧ n = s.size - q ∧ v = .int .u8 (chr s q) ∧ Hid (dsk s q = dsk s d) ∧ RD wr R s { σ with p := q } ∧ w1.grownBy wr (some R))
    case atStart => exact ⟨d, Nat.le_refl _, hpt, rfl, rfl, rfl, hR1.drewN _, gb_drewN (gb_refl _ _) _⟩
    case round =>
      obtain ⟨q, hdq, hq, rfl, rfl, Hq, hR, hg⟩ := hrel
      have hc256 := chr_lt s q
      by_cases hd : isDig (chr s q) = true
      · have hlt := dig_chr hd
        have Hst := Lib.hid ((dsk_step hd).symm.trans Hq.out)
        have hd2 : 48 ≤ chr s q ∧ chr s q ≤ 57 := by simpa [isDig] using hd
        obtain ⟨hd3, hd4⟩ := hd2
        clear hd c1 c11
        have c1 := hR.c1
        have f1 := hR.f 1
        go_wp2_with (first
          | (go_at_call 81; refine (next_ok R s { σ with p := q + 1 } _ he hlt (by exact hR.set1 (q + 1))).mono ?_; rintro e w3 ⟨rfl, n3, rfl⟩))
        go_roundg (s.size - (q + 1))
        case measure => omega
        case rel => exact ⟨q + 1, by omega, hlt, rfl, rfl, Hst, (hR.set1 (q + 1)).drewN _, gb_drewN (gb_setR hg _ _) _⟩
      · have hd1 : isDig (chr s q) = false := by simpa using hd
        have Hst : Hid (dsk s d = q) := Hq.out.symm.trans (dsk_stop hd1)
        have hd2 : chr s q < 48 ∨ 57 < chr s q := by simp [isDig] at hd1; omega
        clear hd hd1
        clear c1 c11
        rcases hd2 with hd2 | hd2
        all_goals
          go_wp2_with fail
          go_meet
          exact ⟨by rw [Hst.out]; exact hR, hg⟩
  case rest =>
    obtain ⟨hR, hg⟩ := hcut
    generalize hqe : dsk s d = q at *
    have Hqe := Lib.hid hqe; clear hqe
    clear c1 c11 n2
    have c0 := hR.c0
    have c1 := hR.c1
    obtain ⟨hdq, hq⟩ := hpd
    have hdqi : (d : Int) ≤ (q : Int) := by omega
    have hd0 : (0 : Int) ≤ (d : Int) := by omega
    have hqi : (q : Int) ≤ (s.size : Int) := by omega
    have hfq : (σ.p : Int) ≤ (q : Int) := by omega
    have hGr : Gv wc := ((hG.alloc _).kept hg1 (by simpa using hRg)).kept hg (by simpa using hRg)
    go_wp2_with fail
    go_quiet (fail)
    go_wp2_with fail
    have hJ := (hJ0.kept hg1 (by simp; omega)).kept hg (by simp; omega)
    clear hJ0
    have hsub : (s.extract σ.p q).size ≤ 2000000 := by rw [sub_size hq]; omega
    have Hl : Hid (PIn (List.take (q - σ.p) (List.drop σ.p s.data.toList)) = PIn (subL s σ.p q)) := by unfold Hid subL; rw [Lib.extract_data]
    have hgA := gb_trans (gb_trans (gb_alloc (gb_refl w (some R)) jz) hg1) hg
    go_cut [6, 7, 8] (fun s6 s7 s8 wx => (∃ x, s6 = .string x ∧ Hid (x = s.extract d q)) ∧ s7 = .int .i64 (PIn (subL s σ.p q)) ∧ (if PIok (subL s σ.p q) then s8 = .nilIface else ∃ N, s8 = .iface 179 (.pointer (some ⟨N, 0, none⟩))) ∧ RD wx R s { σ with p := q } ∧ wc.grownBy wx none)
    case first =>
      by_cases hok : PIok (subL s σ.p q) = true
      · go_region_held3 (fun w' => w'.cell? ⟨R, 0, none⟩ = some (.string s) ∧ w'.cell? ⟨R, 1, none⟩ = some (.int .i64 q)) (first | go_keep | exact ⟨hR5.c0, hR5.c1⟩)
          ((go_at_call 130; refine (parseInt_ok (s.extract σ.p q) _ hsub (by exact (hGr.drewN _).drew) hok).mono ?_; rintro e w5 ⟨rfl, hg5⟩; have hR5 : RD w5 R s { σ with p := q } := RD.kept (by exact hR) hg5 (by simp)))
        go_wp2_with fail
        go_meet
        exact ⟨⟨_, rfl, rfl⟩, by rw [Hl.out], by rw [if_pos hok], hR5, gb_trans (gb_drew (gb_drewN (gb_refl wc none) _)) hg5⟩
      · have hno : PIok (subL s σ.p q) = false := by simpa using hok
        go_region_held3 (fun w' => w'.cell? ⟨R, 0, none⟩ = some (.string s) ∧ w'.cell? ⟨R, 1, none⟩ = some (.int .i64 q)) (first | go_keep | exact ⟨hR5.c0, hR5.c1⟩)
          ((go_at_call 130; refine (parseInt_bad (s.extract σ.p q) _ hsub (by exact (hGr.drewN _).drew) hno).mono ?_; rintro e w5 ⟨N, rfl, hg5⟩; have hR5 : RD w5 R s { σ with p := q } := RD.kept (by exact hR) hg5 (by simp)))
        go_wp2_with fail
        go_meet
        exact ⟨⟨_, rfl, rfl⟩, by rw [Hl.out], by rw [hno]; exact ⟨N, rfl⟩, hR5, gb_trans (gb_drew (gb_drewN (gb_refl wc none) _)) hg5⟩
    case rest =>
      obtain ⟨⟨x, rfl, Hx⟩, rfl, h8, hR5, hg5⟩ := hcut
      have hgB := gb_more hgA hg5 (by simp)
      clear he het
      clear c0 c1
      have c51 := hR5.c1
      have hJ5 := hJ.kept hg5 (by simp)
      by_cases hdz : d = q
      · subst hdz
        obtain rfl : x = ⟨#[]⟩ := Hx.out.trans sub_nil
        go_wp2_with (first
          | (go_at_call 43; refine (fail_any R s _ 4 d _ (by exact hR5)).mono ?_; rintro e w6 ⟨rfl, hRx, hg6⟩; have hJ6 := hJ5.kept hg6 (by simp; omega); obtain ⟨m0, m1, m2, m3, m4, mf⟩ := hJ6.all))
        have hJ7 := hJ6.put5 (.int .i64 3) (.int .i64 (PIn (subL s σ.p d))) (.string ⟨#[]⟩) (.slice none 0 0) (.slice none 0 0)
        obtain ⟨q0, q1, q2, q3, q4, qf⟩ := hJ7.all
        unfold put5 at q0 q1 q2 q3 q4
        refine bodyPost_ret (v := .agg #[.int .i64 3, .int .i64 (PIn (subL s σ.p d)), .string ⟨#[]⟩, .slice none 0 0, .slice none 0 0]) (by simp [results, Tryd.results84, go_sem, q0, q1, q2, q3, q4]) rfl ?_
        rw [Hqe.out]
        refine ⟨rfl, ?_, ?_⟩
        · unfold numE; rw [if_pos rfl]
          exact hRx.put5 (by omega) _ _ _ _ _
        · exact gb_put5 (gb_trans hgB hg6) (Nat.le_refl _) _ _ _ _ _
      · have hlt : d < q := by omega
        have Hsz : Hid (x.size = q - d) := by rw [Hx.out]; exact sub_size hq
        have hE : x.toList.isEmpty = false := by
          have := ba_len x
          cases h : x.toList with
          | nil => rw [h] at this; simp at this; rw [Hsz.out] at this; omega
          | cons => rfl
        have hH : ∀ h : 0 < x.size, (x[0]'h).toNat = chr s d := by rw [Hx.out]; exact sub_head hlt hq
        have HF : Hid ((x.toList = [48]) ↔ (q - d = 1 ∧ chr s d = 48)) := by rw [Hx.out]; exact sub_list hlt hq
        have h0x : 0 < x.size := by rw [Hsz.out]; omega
        by_cases hz : zeroBad s σ.p d q = true
        · have HnumE : Hid (numE s σ.p d q { σ with p := q } = failS { σ with p := q } 4 σ.p) := by
            unfold Hid numE; rw [if_neg (by omega), hz]; rfl
          have hz2 : chr s d = 48 ∧ (1 < q - d ∨ (q - d = 1 ∧ σ.p < d)) := by
            simp [zeroBad] at hz; omega
          clear hz
          obtain ⟨hc, hz3⟩ := hz2
          have hc' : (chr s d : Int) = 48 := by omega
          clear h8
          rcases hz3 with hz3 | ⟨hz3, hz4⟩
          · have hL : (1 : Int) < (x.size : Int) := by rw [Hsz.out]; omega
            clear HF
            go_wp2_with (first
              | (go_at_call 43; refine (fail_any R s _ 4 σ.p _ (by exact hR5)).mono ?_; rintro e w6 ⟨rfl, hRx, hg6⟩; have hJ6 := hJ5.kept hg6 (by simp; omega); obtain ⟨m0, m1, m2, m3, m4, mf⟩ := hJ6.all))
            have hJ7 := hJ6.put5 (.int .i64 3) (.int .i64 (PIn (subL s σ.p q))) (.string ⟨#[]⟩) (.slice none 0 0) (.slice none 0 0)
            obtain ⟨q0, q1, q2, q3, q4, qf⟩ := hJ7.all
            unfold put5 at q0 q1 q2 q3 q4
            refine bodyPost_ret (v := .agg #[.int .i64 3, .int .i64 (PIn (subL s σ.p q)), .string ⟨#[]⟩, .slice none 0 0, .slice none 0 0]) (by simp [results, Tryd.results84, go_sem, q0, q1, q2, q3, q4]) rfl ?_
            rw [Hqe.out]
            exact ⟨rfl, by rw [HnumE.out]; exact hRx.put5 (by omega) _ _ _ _ _, gb_put5 (gb_trans hgB hg6) (Nat.le_refl _) _ _ _ _ _⟩
          · have hL : ¬ (1 : Int) < (x.size : Int) := by rw [Hsz.out]; omega
            have hF : x.toList = [48] := HF.out.2 ⟨hz3, hc⟩
            have hz4' : (σ.p : Int) < (d : Int) := by omega
            go_wp2_with (first
              | (go_at_call 43; refine (fail_any R s _ 4 σ.p _ (by exact hR5)).mono ?_; rintro e w6 ⟨rfl, hRx, hg6⟩; have hJ6 := hJ5.kept hg6 (by simp; omega); obtain ⟨m0, m1, m2, m3, m4, mf⟩ := hJ6.all))
            have hJ7 := hJ6.put5 (.int .i64 3) (.int .i64 (PIn (subL s σ.p q))) (.string ⟨#[]⟩) (.slice none 0 0) (.slice none 0 0)
            obtain ⟨q0, q1, q2, q3, q4, qf⟩ := hJ7.all
            unfold put5 at q0 q1 q2 q3 q4
            refine bodyPost_ret (v := .agg #[.int .i64 3, .int .i64 (PIn (subL s σ.p q)), .string ⟨#[]⟩, .slice none 0 0, .slice none 0 0]) (by simp [results, Tryd.results84, go_sem, q0, q1, q2, q3, q4]) rfl ?_
            rw [Hqe.out]
            exact ⟨rfl, by rw [HnumE.out]; exact hRx.put5 (by omega) _ _ _ _ _, gb_put5 (gb_trans hgB hg6) (Nat.le_refl _) _ _ _ _ _⟩
        · have hz' : zeroBad s σ.p d q = false := by simpa using hz
          have HnumE : Hid (numE s σ.p d q { σ with p := q } = if !PIok (subL s σ.p q) then failS { σ with p := q } 4 σ.p else { σ with p := q }) := by
            unfold Hid numE; rw [if_neg (by omega), hz', Bool.false_or]
          have hz2 : chr s d ≠ 48 ∨ (chr s d = 48 ∧ q - d = 1 ∧ d ≤ σ.p) := by
            simp [zeroBad] at hz'; omega
          clear hz hz'
          have hways : (((chr s d : Int) ≠ 48 ∧ (1 : Int) < (x.size : Int)) ∧ ¬ x.toList = [48]) ∨ (¬ (1 : Int) < (x.size : Int) ∧ ¬ x.toList = [48]) ∨ (¬ (1 : Int) < (x.size : Int) ∧ x.toList = [48] ∧ ¬ (σ.p : Int) < (d : Int)) := by
            rw [HF.out, Hsz.out]; omega
          clear HF hz2
          by_cases hok : PIok (subL s σ.p q) = true
          · rw [if_pos hok] at h8
            subst h8
            have HN : Hid (numE s σ.p d q { σ with p := q } = { σ with p := q }) := by unfold Hid; rw [HnumE.out, hok]; rfl
            clear hok HnumE
            obtain ⟨m0, m1, m2, m3, m4, mf⟩ := hJ5.all
            rcases hways with ⟨⟨hw1, hw2⟩, hw3⟩ | ⟨hw1, hw2⟩ | ⟨hw1, hw2, hw3⟩
            all_goals
              go_wp2_with fail
              have hJ7 := hJ5.put5 (.int .i64 3) (.int .i64 (PIn (subL s σ.p q))) (.string ⟨#[]⟩) (.slice none 0 0) (.slice none 0 0)
              obtain ⟨q0, q1, q2, q3, q4, qf⟩ := hJ7.all
              unfold put5 at q0 q1 q2 q3 q4
              refine bodyPost_ret (v := .agg #[.int .i64 3, .int .i64 (PIn (subL s σ.p q)), .string ⟨#[]⟩, .slice none 0 0, .slice none 0 0]) (by simp [results, Tryd.results84, go_sem, q0, q1, q2, q3, q4]) rfl ?_
              rw [Hqe.out]
              exact ⟨rfl, by rw [HN.out]; exact hR5.put5 (by omega) _ _ _ _ _, gb_put5 hgB (Nat.le_refl _) _ _ _ _ _⟩
          · have hno : PIok (subL s σ.p q) = false := by simpa using hok
            rw [hno] at h8
            obtain ⟨N, rfl⟩ : ∃ N, u8 = .iface 179 (.pointer (some ⟨N, 0, none⟩)) := h8
            have HN : Hid (numE s σ.p d q { σ with p := q } = failS { σ with p := q } 4 σ.p) := by unfold Hid; rw [HnumE.out, hno]; rfl
            clear hok hno HnumE
            rcases hways with ⟨⟨hw1, hw2⟩, hw3⟩ | ⟨hw1, hw2⟩ | ⟨hw1, hw2, hw3⟩
            all_goals
              go_wp2_with (first
                | (go_at_call 43; refine (fail_any R s _ 4 σ.p _ (by exact hR5)).mono ?_; rintro e w6 ⟨rfl, hRx, hg6⟩; have hJ6 := hJ5.kept hg6 (by simp; omega); obtain ⟨m0, m1, m2, m3, m4, mf⟩ := hJ6.all))
              have hJ7 := hJ6.put5 (.int .i64 3) (.int .i64 (PIn (subL s σ.p q))) (.string ⟨#[]⟩) (.slice none 0 0) (.slice none 0 0)
              obtain ⟨q0, q1, q2, q3, q4, qf⟩ := hJ7.all
              unfold put5 at q0 q1 q2 q3 q4
              refine bodyPost_ret (v := .agg #[.int .i64 3, .int .i64 (PIn (subL s σ.p q)), .string ⟨#[]⟩, .slice none 0 0, .slice none 0 0]) (by simp [results, Tryd.results84, go_sem, q0, q1, q2, q3, q4]) rfl ?_
              rw [Hqe.out]
              exact ⟨rfl, by rw [HN.out]; exact hRx.put5 (by omega) _ _ _ _ _, gb_put5 (gb_trans hgB hg6) (Nat.le_refl _) _ _ _ _ _⟩
end Go.Proofs.YtnnhkajjifmlfaaDoor

/-! What (*reader).value, many and Parse of package json compute. -/

namespace Go.Proofs.YtnnhkajjifmlfaaDoor
open Go.RowKit

def bare (k n : Int) : J := .mk k n ⟨#[]⟩ [] []
def bNull : ByteArray := ⟨#[110, 117, 108, 108]⟩
def bFalse : ByteArray := ⟨#[102, 97, 108, 115, 101]⟩
def bTrue : ByteArray := ⟨#[116, 114, 117, 101]⟩
def valueW (s : ByteArray) (many : Int → Int → PS → J × PS) (σ0 : PS) : J × PS :=
  let σ := blanksS s σ0
  let c := nextS s σ
  if c = 110 then (bare 1 0, needS s (nats bNull) σ)
  else if c = 102 then (bare 2 0, needS s (nats bFalse) σ)
  else if c = 116 then (bare 2 1, needS s (nats bTrue) σ)
  else if c = 34 then (.mk 4 0 ⟨(textS s σ).1.toArray⟩ [] [], (textS s σ).2)
  else if c = 45 ∨ (48 ≤ c ∧ c ≤ 57) then (bare 3 (numS s σ).1, (numS s σ).2)
  else if c = 91 then many 5 93 σ
  else if c = 123 then many 6 125 σ
  else (bare 0 0, failS σ 4 σ.p)

/-- a map's name and colon -/
def nameS (s : ByteArray) (kind : Int) (names : List ByteArray) (σ : PS) : List ByteArray × PS :=
  if kind = 6 then (names ++ [⟨(textS s σ).1.toArray⟩], needS s (nats ⟨#[58]⟩) (blanksS s (textS s σ).2)) else (names, σ)
def manyF (s : ByteArray) (val : PS → J × PS) (kind en : Int) : Nat → List ByteArray → List J → PS → J × PS
  | 0, names, list, σ => (.mk kind 0 ⟨#[]⟩ names list, σ)
  | n + 1, names, list, σ =>
    if σ.e = 0 then
      let x := nameS s kind names (blanksS s σ)
      let y := val x.2
      let τ := blanksS s y.2
      if takeB s τ en then (.mk kind 0 ⟨#[]⟩ x.1 (list ++ [y.1]), takeS s τ en)
      else manyF s val kind en n x.1 (list ++ [y.1]) (needS s (nats ⟨#[44]⟩) τ)
    else (.mk kind 0 ⟨#[]⟩ names list, σ)
def outD (x : J × PS) : J × PS := (x.1, { x.2 with d := x.2.d - 1 })
def inD (σ : PS) : PS := { σ with p := σ.p + 1, d := σ.d + 1 }
def manyW (s : ByteArray) (val : PS → J × PS) (kind en : Int) (σ : PS) : J × PS :=
  let τ := blanksS s (inD σ)
  if takeB s τ en then outD (bare kind 0, takeS s τ en)
  else outD (manyF s val kind en (s.size + 2) [] [] τ)
def manyD (s : ByteArray) : Nat → Int → Int → PS → J × PS
  | 0, kind, _, σ => (bare kind 0, failS σ 3 σ.p)
  | k + 1, kind, en, σ => manyW s (valueW s (manyD s k)) kind en σ
def valueD (s : ByteArray) (k : Nat) : PS → J × PS := valueW s (manyD s k)

/-- a step that goes on, within the text, at one depth -/
structure Goes (s : ByteArray) (σ τ : PS) : Prop where
  ge : σ.p ≤ τ.p
  le : τ.p ≤ s.size
  d : τ.d = σ.d
  er : σ.e ≠ 0 → τ.e ≠ 0
section
variable {s : ByteArray} {σ τ ρ : PS}
theorem Goes.refl (h : σ.p ≤ s.size) : Goes s σ σ := ⟨Nat.le_refl _, h, rfl, id⟩
theorem Goes.trans (h : Goes s σ τ) (k : Goes s τ ρ) : Goes s σ ρ := ⟨Nat.le_trans h.ge k.ge, k.le, k.d.trans h.d, fun e => k.er (h.er e)⟩
theorem goes_fail (h : σ.p ≤ s.size) (x q : Int) (hx : x ≠ 0) : Goes s σ (failS σ x q) := by
  unfold failS; split
  · exact ⟨Nat.le_refl _, h, rfl, fun _ => hx⟩
  · exact Goes.refl h
theorem goes_blanks (h : σ.p ≤ s.size) : Goes s σ (blanksS s σ) := by
  unfold blanksS; split
  · have := skip_bd h; exact ⟨this.1, this.2, rfl, id⟩
  · exact Goes.refl h
theorem goes_take (h : σ.p ≤ s.size) (c : Int) : Goes s σ (takeS s σ c) := by
  refine ⟨takeS_p _ _ _, takeS_le h, ?_, ?_⟩ <;> unfold takeS <;> split <;> simp
theorem goes_need : ∀ (t : List Nat) {σ : PS}, σ.p ≤ s.size → Goes s σ (needS s t σ)
  | [], _, h => Goes.refl h
  | c :: r, σ, h => by
    rw [needS_cons]
    have h1 : Goes s σ (needStep s c σ) := by
      unfold needStep; split
      · exact goes_take h _
      · exact goes_fail h _ _ (by decide)
    exact h1.trans (goes_need r h1.le)
theorem goes_step (h : nextS s σ ≠ 0) : Goes s σ (stepP σ) := ⟨by simp [stepP], (next_in h).2, rfl, id⟩
theorem goes_escU (h : σ.p ≤ s.size) : Goes s σ (escU s σ).2 := by
  unfold escU; split
  · exact goes_fail h _ _ (by decide)
  · have h1 := hex_next (s := s) (σ := σ) (by omega)
    have g1 : Goes s σ (stepP σ) := ⟨by simp [stepP], h1.2, rfl, id⟩
    split
    · exact g1.trans (goes_fail g1.le _ _ (by decide))
    · have h2 := hex_next (s := s) (σ := stepP σ) (by omega)
      exact g1.trans ⟨by simp [stepP], h2.2, rfl, id⟩
theorem goes_esc (h : σ.p ≤ s.size) : Goes s σ (escS s σ).2 := by
  have hp := escS_p (s := s) h
  unfold escS; split
  · have := goes_need (s := s) (nats ⟨#[117, 48, 48]⟩) h
    exact this.trans (goes_escU this.le)
  · split
    · exact goes_step (by omega)
    · split
      · exact goes_fail h _ _ (by decide)
      · rename_i h3
        exact goes_step (fun h0 => by rw [h0] at h3; exact h3 (by decide))
theorem goes_textF : ∀ (n : Nat) (acc : List UInt8) {σ : PS}, σ.p ≤ s.size → Goes s σ (textF s n acc σ).2
  | 0, _, _, h => Goes.refl h
  | n + 1, acc, σ, h => by
    unfold textF; split
    · split
      · exact goes_take h _
      · split
        · have g := goes_fail (s := s) h 4 σ.p (by decide)
          exact g.trans (goes_textF n acc g.le)
        · rename_i hlow
          split
          · have g1 := goes_take (s := s) h 92
            have g2 := g1.trans (goes_esc g1.le)
            exact g2.trans (goes_textF n _ g2.le)
          · have g1 := goes_step (s := s) (σ := σ) (by omega)
            exact g1.trans (goes_textF n _ g1.le)
    · exact Goes.refl h
theorem goes_text (h : σ.p ≤ s.size) : Goes s σ (textS s σ).2 := by
  have g := goes_need (s := s) (nats ⟨#[34]⟩) h
  exact g.trans (goes_textF _ _ g.le)
theorem goes_num (h : σ.p ≤ s.size) : Goes s σ (numS s σ).2 := by
  have h1 := takeS_le (c := 45) h
  have h2 := takeS_p s σ 45
  have h3 := dsk_bd h1
  have g : Goes s σ { σ with p := dsk s (takeS s σ 45).p } := ⟨by simp only; omega, h3.2, rfl, id⟩
  unfold numS; simp only; unfold numE
  split
  · exact g.trans (goes_fail g.le _ _ (by decide))
  · split
    · exact g.trans (goes_fail g.le _ _ (by decide))
    · exact g
theorem goes_name (h : σ.p ≤ s.size) (kind : Int) (names : List ByteArray) : Goes s σ (nameS s kind names σ).2 := by
  unfold nameS; split
  · have g1 := goes_text (s := s) h
    have g2 := g1.trans (goes_blanks g1.le)
    exact g2.trans (goes_need _ g2.le)
  · exact Goes.refl h
/-- what a reader of values does: it goes on -/
def ValGoes (s : ByteArray) (val : PS → J × PS) : Prop := ∀ σ, σ.p ≤ s.size → Goes s σ (val σ).2
theorem goes_manyF {val : PS → J × PS} (hv : ValGoes s val) (kind en : Int) : ∀ (n : Nat) (names : List ByteArray) (list : List J) {σ : PS}, σ.p ≤ s.size → Goes s σ (manyF s val kind en n names list σ).2
  | 0, _, _, _, h => Goes.refl h
  | n + 1, names, list, σ, h => by
    unfold manyF; split
    · have g1 := goes_blanks (s := s) h
      have g2 := g1.trans (goes_name g1.le kind names)
      have g3 := g2.trans (hv _ g2.le)
      have g4 := g3.trans (goes_blanks g3.le)
      simp only
      split
      · exact g4.trans (goes_take g4.le _)
      · have g5 := g4.trans (goes_need (nats ⟨#[44]⟩) g4.le)
        exact g5.trans (goes_manyF hv kind en n _ _ g5.le)
    · exact Goes.refl h
theorem goes_manyW {val : PS → J × PS} (hv : ValGoes s val) (kind en : Int) (h : σ.p < s.size) : Goes s σ (manyW s val kind en σ).2 := by
  have g1 := goes_blanks (s := s) (σ := inD σ) h
  unfold manyW; simp only
  have key : ∀ {ρ : PS}, Goes s (inD σ) ρ → Goes s σ { ρ with d := ρ.d - 1 } := fun g => ⟨by have := g.ge; simp only [inD] at this; simp only; omega, g.le, by have := g.d; simp only [inD] at this; simp only; omega, g.er⟩
  split
  · exact key (g1.trans (goes_take g1.le _))
  · exact key (g1.trans (goes_manyF hv kind en _ _ _ g1.le))
theorem goes_valueW {many : Int → Int → PS → J × PS} (hm : ∀ kind en σ, σ.p < s.size → Goes s σ (many kind en σ).2) : ValGoes s (valueW s many) := by
  intro σ h
  have g1 := goes_blanks (s := s) h
  unfold valueW; simp only
  repeat' split
  · exact g1.trans (goes_need _ g1.le)
  · exact g1.trans (goes_need _ g1.le)
  · exact g1.trans (goes_need _ g1.le)
  · exact g1.trans (goes_text g1.le)
  · exact g1.trans (goes_num g1.le)
  · rename_i h1; exact g1.trans (hm _ _ _ (next_in (s := s) (by omega)).2)
  · rename_i h1; exact g1.trans (hm _ _ _ (next_in (s := s) (by omega)).2)
  · exact g1.trans (goes_fail g1.le _ _ (by decide))
theorem goes_manyD : ∀ (k : Nat) (kind en : Int) (σ : PS), σ.p < s.size → Goes s σ (manyD s k kind en σ).2
  | 0, _, _, σ, h => goes_fail (Nat.le_of_lt h) _ _ (by decide)
  | k + 1, kind, en, σ, h => goes_manyW (goes_valueW (goes_manyD k)) kind en h
theorem goes_valueD (k : Nat) : ValGoes s (valueD s k) := goes_valueW (goes_manyD k)
end
end Go.Proofs.YtnnhkajjifmlfaaDoor

/-! (*reader).value of package json: one walk for each way through its switch. -/

namespace Go.Proofs.YtnnhkajjifmlfaaDoor
open Go.RowKit Go.Maps

def J.k : J → Int | .mk k _ _ _ _ => k
def J.n : J → Int | .mk _ n _ _ _ => n
def J.t : J → ByteArray | .mk _ _ t _ _ => t
/-- what a reader of values leaves: the value in new memory, the reader's block alone turned -/
def VP (s : ByteArray) (R : Nat) (w : World) (x : J × PS) (e : Ending) (w' : World) : Prop :=
  ∃ (A1 : Option Addr) (n1 c1 : Nat) (A2 : Option Addr) (n2 c2 : Nat) (S : Nat → Prop),
    e = .returned (.agg #[.int .i64 x.1.k, .int .i64 x.1.n, .string x.1.t, .slice A1 n1 c1, .slice A2 n2 c2]) ∧
    JAt w' S x.1 (.agg #[.int .i64 x.1.k, .int .i64 x.1.n, .string x.1.t, .slice A1 n1 c1, .slice A2 n2 c2]) ∧
    (∀ b, S b → w.heap.size ≤ b ∧ b < w'.heap.size) ∧ RD w' R s x.2 ∧ w.grownBy w' (some R)
theorem VP.bare {s : ByteArray} {R : Nat} {w w' : World} {k n : Int} {t : ByteArray} {σ : PS} (h1 : RD w' R s σ) (h2 : w.grownBy w' (some R)) :
    VP s R w (.mk k n t [] [], σ) (.returned (.agg #[.int .i64 k, .int .i64 n, .string t, .slice none 0 0, .slice none 0 0])) w' :=
  ⟨none, 0, 0, none, 0, 0, fun _ => False, rfl, .bare k n t, fun _ h => h.elim, h1, h2⟩
theorem valueW_eq (s : ByteArray) (many : Int → Int → PS → J × PS) (σ0 : PS) : valueW s many σ0 =
    (if nextS s (blanksS s σ0) = 110 then (YtnnhkajjifmlfaaDoor.bare 1 0, needS s (nats bNull) (blanksS s σ0))
  else if nextS s (blanksS s σ0) = 102 then (YtnnhkajjifmlfaaDoor.bare 2 0, needS s (nats bFalse) (blanksS s σ0))
  else if nextS s (blanksS s σ0) = 116 then (YtnnhkajjifmlfaaDoor.bare 2 1, needS s (nats bTrue) (blanksS s σ0))
  else if nextS s (blanksS s σ0) = 34 then (.mk 4 0 ⟨(textS s (blanksS s σ0)).1.toArray⟩ [] [], (textS s (blanksS s σ0)).2)
  else if nextS s (blanksS s σ0) = 45 ∨ (48 ≤ nextS s (blanksS s σ0) ∧ nextS s (blanksS s σ0) ≤ 57) then (YtnnhkajjifmlfaaDoor.bare 3 (numS s (blanksS s σ0)).1, (numS s (blanksS s σ0)).2)
  else if nextS s (blanksS s σ0) = 91 then many 5 93 (blanksS s σ0)
  else if nextS s (blanksS s σ0) = 123 then many 6 125 (blanksS s σ0)
  else (YtnnhkajjifmlfaaDoor.bare 0 0, failS (blanksS s σ0) 4 (blanksS s σ0).p)) := rfl

set_option maxRecDepth 100000 in
set_option maxHeartbeats 1600000 in
theorem value_null (many : Int → Int → PS → J × PS) (R : Nat) (s : ByteArray) (σ0 : PS) (w : World) (hc : nextS s (blanksS s σ0) = 110) (h : RD w R s σ0) (hp0 : σ0.p ≤ s.size) (hs : s.size ≤ 2000000) :
    Calls Tryd.prog 41 #[.pointer (some ⟨R, 0, none⟩)] w (VP s R w (valueW s many σ0)) := by
  have HV : valueW s many σ0 = (YtnnhkajjifmlfaaDoor.bare 1 0, needS s (nats bNull) (blanksS s σ0)) := by rw [valueW_eq]; rw [if_pos (by omega)]
  rw [HV]; clear HV
  have hRl := h.lt
  have hp := (goes_blanks (s := s) hp0).le
  have Hb := Lib.hid (blanks_any R s σ0 (w.alloc (.cells #[.int .i64 0, .int .i64 0, .string ⟨#[]⟩, .slice none 0 0, .slice none 0 0] 26)) (h.alloc _) hp0 hs)
  have hJ0 := JB.new w (.int .i64 0) (.int .i64 0) (.string ⟨#[]⟩) (.slice none 0 0) (.slice none 0 0)
  generalize blanksS s σ0 = σ at *
  have Hn := fun (W : World) (hh : RD W R s σ) => Lib.hid (next_any R s σ W hh hp)
  have hn0 := fun (W : World) (hh : RD W R s σ) => (Hn W hh).out
  rw [hc] at hn0
  clear Hn
  have Hn := fun (W : World) (hh : RD W R s σ) => Lib.hid (hn0 W hh)
  clear hn0 hc
  go_enter Tryd.func41, Tryd.ntmps41
  go_wp2_with (first
    | (go_at_call 42; refine (Hb.out).mono ?_; rintro e w1 ⟨rfl, hR1, hg1⟩; have hJ1 := hJ0.kept hg1 (by simp; omega))
    | (go_at_call 81; refine ((Hn _ hR1).out).mono ?_; rintro e w2 ⟨rfl, n2, rfl⟩)
    | (go_at_call 82; refine (need_any R s ⟨#[110, 117, 108, 108]⟩ σ _ (by exact hR1.drewN n2) hp hs (by decide)).mono ?_; rintro e w3 ⟨rfl, hR3, hg3⟩; have hJ6 := JB.kept (by exact hJ1) hg3 (by simp; omega); obtain ⟨m0, m1, m2, m3, m4, mf⟩ := hJ6.all))
  have hJ7 := hJ6.put5 (.int .i64 1) (.int .i64 0) (.string ⟨#[]⟩) (.slice none 0 0) (.slice none 0 0)
  obtain ⟨q0, q1, q2, q3, q4, qf⟩ := hJ7.all
  unfold put5 at q0 q1 q2 q3 q4
  refine bodyPost_ret (v := .agg #[.int .i64 1, .int .i64 0, .string ⟨#[]⟩, .slice none 0 0, .slice none 0 0]) (by simp [results, Tryd.results41, go_sem, q0, q1, q2, q3, q4]) rfl ?_
  exact VP.bare (hR3.put5 (by omega) _ _ _ _ _) (gb_put5 (gb_trans (gb_trans (gb_alloc (gb_refl w _) _) hg1) (gb_trans (gb_drewN (gb_refl _ _) n2) hg3)) (Nat.le_refl _) _ _ _ _ _)

set_option maxRecDepth 100000 in
set_option maxHeartbeats 1600000 in
theorem value_false (many : Int → Int → PS → J × PS) (R : Nat) (s : ByteArray) (σ0 : PS) (w : World) (hc : nextS s (blanksS s σ0) = 102) (h : RD w R s σ0) (hp0 : σ0.p ≤ s.size) (hs : s.size ≤ 2000000) :
    Calls Tryd.prog 41 #[.pointer (some ⟨R, 0, none⟩)] w (VP s R w (valueW s many σ0)) := by
  have HV : valueW s many σ0 = (YtnnhkajjifmlfaaDoor.bare 2 0, needS s (nats bFalse) (blanksS s σ0)) := by rw [valueW_eq]; rw [if_neg (by omega), if_pos (by omega)]
  rw [HV]; clear HV
  have hRl := h.lt
  have hp := (goes_blanks (s := s) hp0).le
  have Hb := Lib.hid (blanks_any R s σ0 (w.alloc (.cells #[.int .i64 0, .int .i64 0, .string ⟨#[]⟩, .slice none 0 0, .slice none 0 0] 26)) (h.alloc _) hp0 hs)
  have hJ0 := JB.new w (.int .i64 0) (.int .i64 0) (.string ⟨#[]⟩) (.slice none 0 0) (.slice none 0 0)
  generalize blanksS s σ0 = σ at *
  have Hn := fun (W : World) (hh : RD W R s σ) => Lib.hid (next_any R s σ W hh hp)
  have hn0 := fun (W : World) (hh : RD W R s σ) => (Hn W hh).out
  rw [hc] at hn0
  clear Hn
  have Hn := fun (W : World) (hh : RD W R s σ) => Lib.hid (hn0 W hh)
  clear hn0 hc
  go_enter Tryd.func41, Tryd.ntmps41
  go_wp2_with (first
    | (go_at_call 42; refine (Hb.out).mono ?_; rintro e w1 ⟨rfl, hR1, hg1⟩; have hJ1 := hJ0.kept hg1 (by simp; omega))
    | (go_at_call 81; refine ((Hn _ hR1).out).mono ?_; rintro e w2 ⟨rfl, n2, rfl⟩)
    | (go_at_call 82; refine (need_any R s ⟨#[102, 97, 108, 115, 101]⟩ σ _ (by exact hR1.drewN n2) hp hs (by decide)).mono ?_; rintro e w3 ⟨rfl, hR3, hg3⟩; have hJ6 := JB.kept (by exact hJ1) hg3 (by simp; omega); obtain ⟨m0, m1, m2, m3, m4, mf⟩ := hJ6.all))
  have hJ7 := hJ6.put5 (.int .i64 2) (.int .i64 0) (.string ⟨#[]⟩) (.slice none 0 0) (.slice none 0 0)
  obtain ⟨q0, q1, q2, q3, q4, qf⟩ := hJ7.all
  unfold put5 at q0 q1 q2 q3 q4
  refine bodyPost_ret (v := .agg #[.int .i64 2, .int .i64 0, .string ⟨#[]⟩, .slice none 0 0, .slice none 0 0]) (by simp [results, Tryd.results41, go_sem, q0, q1, q2, q3, q4]) rfl ?_
  exact VP.bare (hR3.put5 (by omega) _ _ _ _ _) (gb_put5 (gb_trans (gb_trans (gb_alloc (gb_refl w _) _) hg1) (gb_trans (gb_drewN (gb_refl _ _) n2) hg3)) (Nat.le_refl _) _ _ _ _ _)

set_option maxRecDepth 100000 in
set_option maxHeartbeats 1600000 in
theorem value_true (many : Int → Int → PS → J × PS) (R : Nat) (s : ByteArray) (σ0 : PS) (w : World) (hc : nextS s (blanksS s σ0) = 116) (h : RD w R s σ0) (hp0 : σ0.p ≤ s.size) (hs : s.size ≤ 2000000) :
    Calls Tryd.prog 41 #[.pointer (some ⟨R, 0, none⟩)] w (VP s R w (valueW s many σ0)) := by
  have HV : valueW s many σ0 = (YtnnhkajjifmlfaaDoor.bare 2 1, needS s (nats bTrue) (blanksS s σ0)) := by rw [valueW_eq]; rw [if_neg (by omega), if_neg (by omega), if_pos (by omega)]
  rw [HV]; clear HV
  have hRl := h.lt
  have hp := (goes_blanks (s := s) hp0).le
  have Hb := Lib.hid (blanks_any R s σ0 (w.alloc (.cells #[.int .i64 0, .int .i64 0, .string ⟨#[]⟩, .slice none 0 0, .slice none 0 0] 26)) (h.alloc _) hp0 hs)
  have hJ0 := JB.new w (.int .i64 0) (.int .i64 0) (.string ⟨#[]⟩) (.slice none 0 0) (.slice none 0 0)
  generalize blanksS s σ0 = σ at *
  have Hn := fun (W : World) (hh : RD W R s σ) => Lib.hid (next_any R s σ W hh hp)
  have hn0 := fun (W : World) (hh : RD W R s σ) => (Hn W hh).out
  rw [hc] at hn0
  clear Hn
  have Hn := fun (W : World) (hh : RD W R s σ) => Lib.hid (hn0 W hh)
  clear hn0 hc
  go_enter Tryd.func41, Tryd.ntmps41
  go_wp2_with (first
    | (go_at_call 42; refine (Hb.out).mono ?_; rintro e w1 ⟨rfl, hR1, hg1⟩; have hJ1 := hJ0.kept hg1 (by simp; omega))
    | (go_at_call 81; refine ((Hn _ hR1).out).mono ?_; rintro e w2 ⟨rfl, n2, rfl⟩)
    | (go_at_call 82; refine (need_any R s ⟨#[116, 114, 117, 101]⟩ σ _ (by exact hR1.drewN n2) hp hs (by decide)).mono ?_; rintro e w3 ⟨rfl, hR3, hg3⟩; have hJ6 := JB.kept (by exact hJ1) hg3 (by simp; omega); obtain ⟨m0, m1, m2, m3, m4, mf⟩ := hJ6.all))
  have hJ7 := hJ6.put5 (.int .i64 2) (.int .i64 1) (.string ⟨#[]⟩) (.slice none 0 0) (.slice none 0 0)
  obtain ⟨q0, q1, q2, q3, q4, qf⟩ := hJ7.all
  unfold put5 at q0 q1 q2 q3 q4
  refine bodyPost_ret (v := .agg #[.int .i64 2, .int .i64 1, .string ⟨#[]⟩, .slice none 0 0, .slice none 0 0]) (by simp [results, Tryd.results41, go_sem, q0, q1, q2, q3, q4]) rfl ?_
  exact VP.bare (hR3.put5 (by omega) _ _ _ _ _) (gb_put5 (gb_trans (gb_trans (gb_alloc (gb_refl w _) _) hg1) (gb_trans (gb_drewN (gb_refl _ _) n2) hg3)) (Nat.le_refl _) _ _ _ _ _)

set_option maxRecDepth 100000 in
set_option maxHeartbeats 1600000 in
theorem value_text (many : Int → Int → PS → J × PS) (R : Nat) (s : ByteArray) (σ0 : PS) (w : World) (hc : nextS s (blanksS s σ0) = 34) (h : RD w R s σ0) (hp0 : σ0.p ≤ s.size) (hs : s.size ≤ 2000000) :
    Calls Tryd.prog 41 #[.pointer (some ⟨R, 0, none⟩)] w (VP s R w (valueW s many σ0)) := by
  have HV : valueW s many σ0 = (.mk 4 0 ⟨(textS s (blanksS s σ0)).1.toArray⟩ [] [], (textS s (blanksS s σ0)).2) := by rw [valueW_eq]; rw [if_neg (by omega), if_neg (by omega), if_neg (by omega), if_pos (by omega)]
  rw [HV]; clear HV
  have hRl := h.lt
  have hp := (goes_blanks (s := s) hp0).le
  have Hb := Lib.hid (blanks_any R s σ0 (w.alloc (.cells #[.int .i64 0, .int .i64 0, .string ⟨#[]⟩, .slice none 0 0, .slice none 0 0] 26)) (h.alloc _) hp0 hs)
  have hJ0 := JB.new w (.int .i64 0) (.int .i64 0) (.string ⟨#[]⟩) (.slice none 0 0) (.slice none 0 0)
  generalize blanksS s σ0 = σ at *
  have Hn := fun (W : World) (hh : RD W R s σ) => Lib.hid (next_any R s σ W hh hp)
  have hn0 := fun (W : World) (hh : RD W R s σ) => (Hn W hh).out
  rw [hc] at hn0
  clear Hn
  have Hn := fun (W : World) (hh : RD W R s σ) => Lib.hid (hn0 W hh)
  clear hn0 hc
  go_enter Tryd.func41, Tryd.ntmps41
  go_wp2_with (first
    | (go_at_call 42; refine (Hb.out).mono ?_; rintro e w1 ⟨rfl, hR1, hg1⟩; have hJ1 := hJ0.kept hg1 (by simp; omega))
    | (go_at_call 81; refine ((Hn _ hR1).out).mono ?_; rintro e w2 ⟨rfl, n2, rfl⟩)
    | (go_at_call 83; refine (text_any R s σ _ (by exact hR1.drewN n2) hp hs).mono ?_; rintro e w3 ⟨rfl, hR3, hg3⟩; have hJ6 := JB.kept (by exact hJ1) hg3 (by simp; omega); obtain ⟨m0, m1, m2, m3, m4, mf⟩ := hJ6.all))
  have hJ7 := hJ6.put5 (.int .i64 4) (.int .i64 0) (.string ⟨(textS s σ).1.toArray⟩) (.slice none 0 0) (.slice none 0 0)
  obtain ⟨q0, q1, q2, q3, q4, qf⟩ := hJ7.all
  unfold put5 at q0 q1 q2 q3 q4
  refine bodyPost_ret (v := .agg #[.int .i64 4, .int .i64 0, .string ⟨(textS s σ).1.toArray⟩, .slice none 0 0, .slice none 0 0]) (by simp [results, Tryd.results41, go_sem, q0, q1, q2, q3, q4]) rfl ?_
  exact VP.bare (hR3.put5 (by omega) _ _ _ _ _) (gb_put5 (gb_trans (gb_trans (gb_alloc (gb_refl w _) _) hg1) (gb_trans (gb_drewN (gb_refl _ _) n2) hg3)) (Nat.le_refl _) _ _ _ _ _)

set_option maxRecDepth 100000 in
set_option maxHeartbeats 1600000 in
theorem value_minus (many : Int → Int → PS → J × PS) (R : Nat) (s : ByteArray) (σ0 : PS) (w : World) (hc : nextS s (blanksS s σ0) = 45) (h : RD w R s σ0) (hp0 : σ0.p ≤ s.size) (hs : s.size ≤ 2000000) (hG : Gv w) (hR6 : 6 ≤ R) :
    Calls Tryd.prog 41 #[.pointer (some ⟨R, 0, none⟩)] w (VP s R w (valueW s many σ0)) := by
  have HV : valueW s many σ0 = (YtnnhkajjifmlfaaDoor.bare 3 (numS s (blanksS s σ0)).1, (numS s (blanksS s σ0)).2) := by rw [valueW_eq]; rw [if_neg (by omega), if_neg (by omega), if_neg (by omega), if_neg (by omega), if_pos (by omega)]
  rw [HV]; clear HV
  have hRl := h.lt
  have hp := (goes_blanks (s := s) hp0).le
  have Hb := Lib.hid (blanks_any R s σ0 (w.alloc (.cells #[.int .i64 0, .int .i64 0, .string ⟨#[]⟩, .slice none 0 0, .slice none 0 0] 26)) (h.alloc _) hp0 hs)
  have hJ0 := JB.new w (.int .i64 0) (.int .i64 0) (.string ⟨#[]⟩) (.slice none 0 0) (.slice none 0 0)
  have he : (blanksS s σ0).e = 0 := (next_in (s := s) (by omega)).1
  generalize blanksS s σ0 = σ at *
  have Hn := fun (W : World) (hh : RD W R s σ) => Lib.hid (next_any R s σ W hh hp)
  have hn0 := fun (W : World) (hh : RD W R s σ) => (Hn W hh).out
  rw [hc] at hn0
  clear Hn
  have Hn := fun (W : World) (hh : RD W R s σ) => Lib.hid (hn0 W hh)
  clear hn0 hc
  go_enter Tryd.func41, Tryd.ntmps41
  go_wp2_with (first
    | (go_at_call 42; refine (Hb.out).mono ?_; rintro e w1 ⟨rfl, hR1, hg1⟩; have hJ1 := hJ0.kept hg1 (by simp; omega))
    | (go_at_call 81; refine ((Hn _ hR1).out).mono ?_; rintro e w2 ⟨rfl, n2, rfl⟩)
    | (go_at_call 84; refine (number_any R s σ _ (by exact hR1.drewN n2) hp hs ((((hG.alloc _).kept hg1 (by simpa using hR6)).drewN n2)) hR6 he).mono ?_; rintro e w3 ⟨rfl, hR3, hg3⟩; have hJ6 := JB.kept (by exact hJ1) hg3 (by simp; omega); obtain ⟨m0, m1, m2, m3, m4, mf⟩ := hJ6.all))
  have hJ7 := hJ6.put5 (.int .i64 3) (.int .i64 (numS s σ).1) (.string ⟨#[]⟩) (.slice none 0 0) (.slice none 0 0)
  obtain ⟨q0, q1, q2, q3, q4, qf⟩ := hJ7.all
  unfold put5 at q0 q1 q2 q3 q4
  refine bodyPost_ret (v := .agg #[.int .i64 3, .int .i64 (numS s σ).1, .string ⟨#[]⟩, .slice none 0 0, .slice none 0 0]) (by simp [results, Tryd.results41, go_sem, q0, q1, q2, q3, q4]) rfl ?_
  exact VP.bare (hR3.put5 (by omega) _ _ _ _ _) (gb_put5 (gb_trans (gb_trans (gb_alloc (gb_refl w _) _) hg1) (gb_trans (gb_drewN (gb_refl _ _) n2) hg3)) (Nat.le_refl _) _ _ _ _ _)

set_option maxRecDepth 100000 in
set_option maxHeartbeats 1600000 in
theorem value_digit (many : Int → Int → PS → J × PS) (R : Nat) (s : ByteArray) (σ0 : PS) (w : World) (hc : 48 ≤ nextS s (blanksS s σ0) ∧ nextS s (blanksS s σ0) ≤ 57) (h : RD w R s σ0) (hp0 : σ0.p ≤ s.size) (hs : s.size ≤ 2000000) (hG : Gv w) (hR6 : 6 ≤ R) :
    Calls Tryd.prog 41 #[.pointer (some ⟨R, 0, none⟩)] w (VP s R w (valueW s many σ0)) := by
  have HV : valueW s many σ0 = (YtnnhkajjifmlfaaDoor.bare 3 (numS s (blanksS s σ0)).1, (numS s (blanksS s σ0)).2) := by rw [valueW_eq]; rw [if_neg (by omega), if_neg (by omega), if_neg (by omega), if_neg (by omega), if_pos (by omega)]
  rw [HV]; clear HV
  have hRl := h.lt
  have hp := (goes_blanks (s := s) hp0).le
  have Hb := Lib.hid (blanks_any R s σ0 (w.alloc (.cells #[.int .i64 0, .int .i64 0, .string ⟨#[]⟩, .slice none 0 0, .slice none 0 0] 26)) (h.alloc _) hp0 hs)
  have hJ0 := JB.new w (.int .i64 0) (.int .i64 0) (.string ⟨#[]⟩) (.slice none 0 0) (.slice none 0 0)
  have he : (blanksS s σ0).e = 0 := (next_in (s := s) (by omega)).1
  generalize blanksS s σ0 = σ at *
  have Hn := fun (W : World) (hh : RD W R s σ) => Lib.hid (next_any R s σ W hh hp)
  obtain ⟨hc1, hc2⟩ := hc
  go_enter Tryd.func41, Tryd.ntmps41
  go_wp2_with (first
    | (go_at_call 42; refine (Hb.out).mono ?_; rintro e w1 ⟨rfl, hR1, hg1⟩; have hJ1 := hJ0.kept hg1 (by simp; omega))
    | (go_at_call 81; refine ((Hn _ hR1).out).mono ?_; rintro e w2 ⟨rfl, n2, rfl⟩)
    | (go_at_call 84; refine (number_any R s σ _ (by exact hR1.drewN n2) hp hs ((((hG.alloc _).kept hg1 (by simpa using hR6)).drewN n2)) hR6 he).mono ?_; rintro e w3 ⟨rfl, hR3, hg3⟩; have hJ6 := JB.kept (by exact hJ1) hg3 (by simp; omega); obtain ⟨m0, m1, m2, m3, m4, mf⟩ := hJ6.all))
  have hJ7 := hJ6.put5 (.int .i64 3) (.int .i64 (numS s σ).1) (.string ⟨#[]⟩) (.slice none 0 0) (.slice none 0 0)
  obtain ⟨q0, q1, q2, q3, q4, qf⟩ := hJ7.all
  unfold put5 at q0 q1 q2 q3 q4
  refine bodyPost_ret (v := .agg #[.int .i64 3, .int .i64 (numS s σ).1, .string ⟨#[]⟩, .slice none 0 0, .slice none 0 0]) (by simp [results, Tryd.results41, go_sem, q0, q1, q2, q3, q4]) rfl ?_
  exact VP.bare (hR3.put5 (by omega) _ _ _ _ _) (gb_put5 (gb_trans (gb_trans (gb_alloc (gb_refl w _) _) hg1) (gb_trans (gb_drewN (gb_refl _ _) n2) hg3)) (Nat.le_refl _) _ _ _ _ _)

set_option maxRecDepth 100000 in
set_option maxHeartbeats 1600000 in
theorem value_bad1 (many : Int → Int → PS → J × PS) (R : Nat) (s : ByteArray) (σ0 : PS) (w : World) (hc : nextS s (blanksS s σ0) < 48 ∧ nextS s (blanksS s σ0) ≠ 110 ∧ nextS s (blanksS s σ0) ≠ 102 ∧ nextS s (blanksS s σ0) ≠ 116 ∧ nextS s (blanksS s σ0) ≠ 34 ∧ nextS s (blanksS s σ0) ≠ 45 ∧ ¬ (48 ≤ nextS s (blanksS s σ0) ∧ nextS s (blanksS s σ0) ≤ 57) ∧ nextS s (blanksS s σ0) ≠ 91 ∧ nextS s (blanksS s σ0) ≠ 123) (h : RD w R s σ0) (hp0 : σ0.p ≤ s.size) (hs : s.size ≤ 2000000) :
    Calls Tryd.prog 41 #[.pointer (some ⟨R, 0, none⟩)] w (VP s R w (valueW s many σ0)) := by
  have HV : valueW s many σ0 = (YtnnhkajjifmlfaaDoor.bare 0 0, failS (blanksS s σ0) 4 (blanksS s σ0).p) := by rw [valueW_eq]; rw [if_neg (by omega), if_neg (by omega), if_neg (by omega), if_neg (by omega), if_neg (by omega), if_neg (by omega), if_neg (by omega)]
  rw [HV]; clear HV
  have hRl := h.lt
  have hp := (goes_blanks (s := s) hp0).le
  have Hb := Lib.hid (blanks_any R s σ0 (w.alloc (.cells #[.int .i64 0, .int .i64 0, .string ⟨#[]⟩, .slice none 0 0, .slice none 0 0] 26)) (h.alloc _) hp0 hs)
  have hJ0 := JB.new w (.int .i64 0) (.int .i64 0) (.string ⟨#[]⟩) (.slice none 0 0) (.slice none 0 0)
  generalize blanksS s σ0 = σ at *
  have Hn := fun (W : World) (hh : RD W R s σ) => Lib.hid (next_any R s σ W hh hp)
  obtain ⟨h0, h1, h2, h3, h4, h5, h6, h7, h8⟩ := hc
  have b1 : ((nextS s σ : Int) == 110) = false := by simp; omega
  have b2 : ((nextS s σ : Int) == 102) = false := by simp; omega
  have b3 : ((nextS s σ : Int) == 116) = false := by simp; omega
  have b4 : ((nextS s σ : Int) == 34) = false := by simp; omega
  have b5 : ((nextS s σ : Int) == 45) = false := by simp; omega
  have b7 : ((nextS s σ : Int) == 91) = false := by simp; omega
  have b8 : ((nextS s σ : Int) == 123) = false := by simp; omega
  clear h1 h2 h3 h4 h5 h6 h7 h8
  go_enter Tryd.func41, Tryd.ntmps41
  go_wp2_with (first
    | (go_at_call 42; refine (Hb.out).mono ?_; rintro e w1 ⟨rfl, hR1, hg1⟩; have hJ1 := hJ0.kept hg1 (by simp; omega); have c11 := hR1.c1)
    | (go_at_call 81; refine ((Hn _ hR1).out).mono ?_; rintro e w2 ⟨rfl, n2, rfl⟩)
    | (go_at_call 43; refine (fail_any R s σ 4 σ.p _ (by exact hR1.drewN n2)).mono ?_; rintro e w3 ⟨rfl, hR3, hg3⟩; have hJ6 := JB.kept (by exact hJ1) hg3 (by simp; omega); obtain ⟨m0, m1, m2, m3, m4, mf⟩ := hJ6.all))
  have hJ7 := hJ6.put5 (.int .i64 0) (.int .i64 0) (.string ⟨#[]⟩) (.slice none 0 0) (.slice none 0 0)
  obtain ⟨q0, q1, q2, q3, q4, qf⟩ := hJ7.all
  unfold put5 at q0 q1 q2 q3 q4
  refine bodyPost_ret (v := .agg #[.int .i64 0, .int .i64 0, .string ⟨#[]⟩, .slice none 0 0, .slice none 0 0]) (by simp [results, Tryd.results41, go_sem, q0, q1, q2, q3, q4]) rfl ?_
  exact VP.bare (hR3.put5 (by omega) _ _ _ _ _) (gb_put5 (gb_trans (gb_trans (gb_alloc (gb_refl w _) _) hg1) (gb_trans (gb_drewN (gb_refl _ _) n2) hg3)) (Nat.le_refl _) _ _ _ _ _)

set_option maxRecDepth 100000 in
set_option maxHeartbeats 1600000 in
theorem value_bad2 (many : Int → Int → PS → J × PS) (R : Nat) (s : ByteArray) (σ0 : PS) (w : World) (hc : 57 < nextS s (blanksS s σ0) ∧ nextS s (blanksS s σ0) ≠ 110 ∧ nextS s (blanksS s σ0) ≠ 102 ∧ nextS s (blanksS s σ0) ≠ 116 ∧ nextS s (blanksS s σ0) ≠ 34 ∧ nextS s (blanksS s σ0) ≠ 45 ∧ ¬ (48 ≤ nextS s (blanksS s σ0) ∧ nextS s (blanksS s σ0) ≤ 57) ∧ nextS s (blanksS s σ0) ≠ 91 ∧ nextS s (blanksS s σ0) ≠ 123) (h : RD w R s σ0) (hp0 : σ0.p ≤ s.size) (hs : s.size ≤ 2000000) :
    Calls Tryd.prog 41 #[.pointer (some ⟨R, 0, none⟩)] w (VP s R w (valueW s many σ0)) := by
  have HV : valueW s many σ0 = (YtnnhkajjifmlfaaDoor.bare 0 0, failS (blanksS s σ0) 4 (blanksS s σ0).p) := by rw [valueW_eq]; rw [if_neg (by omega), if_neg (by omega), if_neg (by omega), if_neg (by omega), if_neg (by omega), if_neg (by omega), if_neg (by omega)]
  rw [HV]; clear HV
  have hRl := h.lt
  have hp := (goes_blanks (s := s) hp0).le
  have Hb := Lib.hid (blanks_any R s σ0 (w.alloc (.cells #[.int .i64 0, .int .i64 0, .string ⟨#[]⟩, .slice none 0 0, .slice none 0 0] 26)) (h.alloc _) hp0 hs)
  have hJ0 := JB.new w (.int .i64 0) (.int .i64 0) (.string ⟨#[]⟩) (.slice none 0 0) (.slice none 0 0)
  generalize blanksS s σ0 = σ at *
  have Hn := fun (W : World) (hh : RD W R s σ) => Lib.hid (next_any R s σ W hh hp)
  obtain ⟨h0, h1, h2, h3, h4, h5, h6, h7, h8⟩ := hc
  have b1 : ((nextS s σ : Int) == 110) = false := by simp; omega
  have b2 : ((nextS s σ : Int) == 102) = false := by simp; omega
  have b3 : ((nextS s σ : Int) == 116) = false := by simp; omega
  have b4 : ((nextS s σ : Int) == 34) = false := by simp; omega
  have b5 : ((nextS s σ : Int) == 45) = false := by simp; omega
  have b7 : ((nextS s σ : Int) == 91) = false := by simp; omega
  have b8 : ((nextS s σ : Int) == 123) = false := by simp; omega
  clear h1 h2 h3 h4 h5 h6 h7 h8
  go_enter Tryd.func41, Tryd.ntmps41
  go_wp2_with (first
    | (go_at_call 42; refine (Hb.out).mono ?_; rintro e w1 ⟨rfl, hR1, hg1⟩; have hJ1 := hJ0.kept hg1 (by simp; omega); have c11 := hR1.c1)
    | (go_at_call 81; refine ((Hn _ hR1).out).mono ?_; rintro e w2 ⟨rfl, n2, rfl⟩)
    | (go_at_call 43; refine (fail_any R s σ 4 σ.p _ (by exact hR1.drewN n2)).mono ?_; rintro e w3 ⟨rfl, hR3, hg3⟩; have hJ6 := JB.kept (by exact hJ1) hg3 (by simp; omega); obtain ⟨m0, m1, m2, m3, m4, mf⟩ := hJ6.all))
  have hJ7 := hJ6.put5 (.int .i64 0) (.int .i64 0) (.string ⟨#[]⟩) (.slice none 0 0) (.slice none 0 0)
  obtain ⟨q0, q1, q2, q3, q4, qf⟩ := hJ7.all
  unfold put5 at q0 q1 q2 q3 q4
  refine bodyPost_ret (v := .agg #[.int .i64 0, .int .i64 0, .string ⟨#[]⟩, .slice none 0 0, .slice none 0 0]) (by simp [results, Tryd.results41, go_sem, q0, q1, q2, q3, q4]) rfl ?_
  exact VP.bare (hR3.put5 (by omega) _ _ _ _ _) (gb_put5 (gb_trans (gb_trans (gb_alloc (gb_refl w _) _) hg1) (gb_trans (gb_drewN (gb_refl _ _) n2) hg3)) (Nat.le_refl _) _ _ _ _ _)
end Go.Proofs.YtnnhkajjifmlfaaDoor

/-! (*reader).value of package json, whole, given many. -/

namespace Go.Proofs.YtnnhkajjifmlfaaDoor
open Go.RowKit Go.Maps

theorem put5_heap {w : World} {B b : Nat} (h : b ≠ B) (a0 a1 a2 a3 a4 : Value) : (put5 w B a0 a1 a2 a3 a4).heap[b]? = w.heap[b]? := by
  unfold put5
  rw [Below.heap_setCell _ _ _ _ h, Below.heap_setCell _ _ _ _ h, Below.heap_setCell _ _ _ _ h, Below.heap_setCell _ _ _ _ h, Below.heap_setCell _ _ _ _ h]
theorem put5_size (w : World) (B : Nat) (a0 a1 a2 a3 a4 : Value) : (put5 w B a0 a1 a2 a3 a4).heap.size = w.heap.size := by
  simp [put5, World.setCell]

/-- the contract of many, at one depth, as value wants it -/
def ManyC (s : ByteArray) (many : Int → Int → PS → J × PS) (D : Int) : Prop :=
  ∀ (kind en : Int) (R : Nat) (σ : PS) (w : World), RD w R s σ → σ.e = 0 → σ.p < s.size → Gv w → 6 ≤ R → σ.d = D → (kind = 5 ∧ en = 93 ∨ kind = 6 ∧ en = 125) →
    Calls Tryd.prog 85 #[.pointer (some ⟨R, 0, none⟩), .int .i64 kind, .int .u8 en] w (VP s R w (many kind en σ))

set_option maxRecDepth 100000 in
set_option maxHeartbeats 1600000 in
theorem value_list (s : ByteArray) (many : Int → Int → PS → J × PS) (D : Int) (hM : ManyC s many D) (R : Nat) (σ0 : PS) (w : World) (hc : nextS s (blanksS s σ0) = 91) (h : RD w R s σ0) (hp0 : σ0.p ≤ s.size) (hs : s.size ≤ 2000000) (hG : Gv w) (hR6 : 6 ≤ R) (hD : σ0.d = D) :
    Calls Tryd.prog 41 #[.pointer (some ⟨R, 0, none⟩)] w (VP s R w (valueW s many σ0)) := by
  have HV : valueW s many σ0 = many 5 93 (blanksS s σ0) := by rw [valueW_eq]; rw [if_neg (by omega), if_neg (by omega), if_neg (by omega), if_neg (by omega), if_neg (by omega), if_pos (by omega)]
  rw [HV]; clear HV
  have hRl := h.lt
  have hgo := goes_blanks (s := s) hp0
  have hp := hgo.le
  have hin := next_in (s := s) (σ := blanksS s σ0) (by omega)
  have Hb := Lib.hid (blanks_any R s σ0 (w.alloc (.cells #[.int .i64 0, .int .i64 0, .string ⟨#[]⟩, .slice none 0 0, .slice none 0 0] 26)) (h.alloc _) hp0 hs)
  have hJ0 := JB.new w (.int .i64 0) (.int .i64 0) (.string ⟨#[]⟩) (.slice none 0 0) (.slice none 0 0)
  have HM := fun (W : World) (hh : RD W R s (blanksS s σ0)) (hGW : Gv W) => Lib.hid (hM 5 93 R (blanksS s σ0) W hh hin.1 hin.2 hGW hR6 (hgo.d.trans hD) (.inl ⟨rfl, rfl⟩))
  clear hin hgo hM hD
  generalize blanksS s σ0 = σ at *
  have hn0 := fun (W : World) (hh : RD W R s σ) => next_any R s σ W hh hp
  rw [hc] at hn0
  have Hn := fun (W : World) (hh : RD W R s σ) => Lib.hid (hn0 W hh)
  clear hn0 hc
  generalize many 5 93 σ = x at *
  obtain ⟨j, τ⟩ := x
  go_enter Tryd.func41, Tryd.ntmps41
  go_wp2_with (first
    | (go_at_call 42; refine (Hb.out).mono ?_; rintro e w1 ⟨rfl, hR1, hg1⟩; have hJ1 := hJ0.kept hg1 (by simp; omega))
    | (go_at_call 81; refine ((Hn _ hR1).out).mono ?_; rintro e w2 ⟨rfl, n2, rfl⟩)
    | (go_at_call 85; refine ((HM _ (by exact hR1.drewN n2) ((((hG.alloc _).kept hg1 (by simpa using hR6)).drewN n2))).out).mono ?_; rintro e w3 ⟨A1, m1, d1, A2, m2, d2, S, rfl, hj, hS, hR3, hg3⟩; have hJ6 := JB.kept (by exact hJ1) hg3 (by simp; omega); obtain ⟨k0, k1, k2, k3, k4, kf⟩ := hJ6.all))
  have hJ7 := hJ6.put5 (.int .i64 j.k) (.int .i64 j.n) (.string j.t) (.slice A1 m1 d1) (.slice A2 m2 d2)
  obtain ⟨q0, q1, q2, q3, q4, qf⟩ := hJ7.all
  unfold put5 at q0 q1 q2 q3 q4
  refine bodyPost_ret (v := .agg #[.int .i64 j.k, .int .i64 j.n, .string j.t, .slice A1 m1 d1, .slice A2 m2 d2]) (by simp [results, Tryd.results41, go_sem, q0, q1, q2, q3, q4]) rfl ?_
  have hsz := hg1.size
  simp only [World.size_alloc] at hsz
  have hS' : ∀ b, S b → w.heap.size < b ∧ b < w3.heap.size := fun b hb => ⟨by have := (hS b hb).1; simp at this; omega, (hS b hb).2⟩
  refine ⟨A1, m1, d1, A2, m2, d2, S, rfl, hj.keep (fun b hb => put5_heap (by have := hS' b hb; omega) _ _ _ _ _) (fun _ => id), fun b hb => ⟨by have := hS' b hb; omega, by have := hS' b hb; show b < (put5 w3 w.heap.size _ _ _ _ _).heap.size; rw [put5_size]; omega⟩, hR3.put5 (B := w.heap.size) (by omega) _ _ _ _ _, gb_put5 (gb_trans (gb_trans (gb_alloc (gb_refl w _) _) hg1) (gb_trans (gb_drewN (gb_refl _ _) n2) hg3)) (Nat.le_refl _) _ _ _ _ _⟩
set_option maxRecDepth 100000 in
set_option maxHeartbeats 1600000 in
theorem value_map (s : ByteArray) (many : Int → Int → PS → J × PS) (D : Int) (hM : ManyC s many D) (R : Nat) (σ0 : PS) (w : World) (hc : nextS s (blanksS s σ0) = 123) (h : RD w R s σ0) (hp0 : σ0.p ≤ s.size) (hs : s.size ≤ 2000000) (hG : Gv w) (hR6 : 6 ≤ R) (hD : σ0.d = D) :
    Calls Tryd.prog 41 #[.pointer (some ⟨R, 0, none⟩)] w (VP s R w (valueW s many σ0)) := by
  have HV : valueW s many σ0 = many 6 125 (blanksS s σ0) := by rw [valueW_eq]; rw [if_neg (by omega), if_neg (by omega), if_neg (by omega), if_neg (by omega), if_neg (by omega), if_neg (by omega), if_pos (by omega)]
  rw [HV]; clear HV
  have hRl := h.lt
  have hgo := goes_blanks (s := s) hp0
  have hp := hgo.le
  have hin := next_in (s := s) (σ := blanksS s σ0) (by omega)
  have Hb := Lib.hid (blanks_any R s σ0 (w.alloc (.cells #[.int .i64 0, .int .i64 0, .string ⟨#[]⟩, .slice none 0 0, .slice none 0 0] 26)) (h.alloc _) hp0 hs)
  have hJ0 := JB.new w (.int .i64 0) (.int .i64 0) (.string ⟨#[]⟩) (.slice none 0 0) (.slice none 0 0)
  have HM := fun (W : World) (hh : RD W R s (blanksS s σ0)) (hGW : Gv W) => Lib.hid (hM 6 125 R (blanksS s σ0) W hh hin.1 hin.2 hGW hR6 (hgo.d.trans hD) (.inr ⟨rfl, rfl⟩))
  clear hin hgo hM hD
  generalize blanksS s σ0 = σ at *
  have hn0 := fun (W : World) (hh : RD W R s σ) => next_any R s σ W hh hp
  rw [hc] at hn0
  have Hn := fun (W : World) (hh : RD W R s σ) => Lib.hid (hn0 W hh)
  clear hn0 hc
  generalize many 6 125 σ = x at *
  obtain ⟨j, τ⟩ := x
  go_enter Tryd.func41, Tryd.ntmps41
  go_wp2_with (first
    | (go_at_call 42; refine (Hb.out).mono ?_; rintro e w1 ⟨rfl, hR1, hg1⟩; have hJ1 := hJ0.kept hg1 (by simp; omega))
    | (go_at_call 81; refine ((Hn _ hR1).out).mono ?_; rintro e w2 ⟨rfl, n2, rfl⟩)
    | (go_at_call 85; refine ((HM _ (by exact hR1.drewN n2) ((((hG.alloc _).kept hg1 (by simpa using hR6)).drewN n2))).out).mono ?_; rintro e w3 ⟨A1, m1, d1, A2, m2, d2, S, rfl, hj, hS, hR3, hg3⟩; have hJ6 := JB.kept (by exact hJ1) hg3 (by simp; omega); obtain ⟨k0, k1, k2, k3, k4, kf⟩ := hJ6.all))
  have hJ7 := hJ6.put5 (.int .i64 j.k) (.int .i64 j.n) (.string j.t) (.slice A1 m1 d1) (.slice A2 m2 d2)
  obtain ⟨q0, q1, q2, q3, q4, qf⟩ := hJ7.all
  unfold put5 at q0 q1 q2 q3 q4
  refine bodyPost_ret (v := .agg #[.int .i64 j.k, .int .i64 j.n, .string j.t, .slice A1 m1 d1, .slice A2 m2 d2]) (by simp [results, Tryd.results41, go_sem, q0, q1, q2, q3, q4]) rfl ?_
  have hsz := hg1.size
  simp only [World.size_alloc] at hsz
  have hS' : ∀ b, S b → w.heap.size < b ∧ b < w3.heap.size := fun b hb => ⟨by have := (hS b hb).1; simp at this; omega, (hS b hb).2⟩
  refine ⟨A1, m1, d1, A2, m2, d2, S, rfl, hj.keep (fun b hb => put5_heap (by have := hS' b hb; omega) _ _ _ _ _) (fun _ => id), fun b hb => ⟨by have := hS' b hb; omega, by have := hS' b hb; show b < (put5 w3 w.heap.size _ _ _ _ _).heap.size; rw [put5_size]; omega⟩, hR3.put5 (B := w.heap.size) (by omega) _ _ _ _ _, gb_put5 (gb_trans (gb_trans (gb_alloc (gb_refl w _) _) hg1) (gb_trans (gb_drewN (gb_refl _ _) n2) hg3)) (Nat.le_refl _) _ _ _ _ _⟩
/-- (*reader).value, given many at that depth -/
theorem value_any (s : ByteArray) (many : Int → Int → PS → J × PS) (D : Int) (hM : ManyC s many D) (R : Nat) (σ0 : PS) (w : World) (h : RD w R s σ0) (hp0 : σ0.p ≤ s.size) (hs : s.size ≤ 2000000) (hG : Gv w) (hR6 : 6 ≤ R) (hD : σ0.d = D) :
    Calls Tryd.prog 41 #[.pointer (some ⟨R, 0, none⟩)] w (VP s R w (valueW s many σ0)) := by
  by_cases h1 : nextS s (blanksS s σ0) = 110
  · exact value_null many R s σ0 w h1 h hp0 hs
  by_cases h2 : nextS s (blanksS s σ0) = 102
  · exact value_false many R s σ0 w h2 h hp0 hs
  by_cases h3 : nextS s (blanksS s σ0) = 116
  · exact value_true many R s σ0 w h3 h hp0 hs
  by_cases h4 : nextS s (blanksS s σ0) = 34
  · exact value_text many R s σ0 w h4 h hp0 hs
  by_cases h5 : nextS s (blanksS s σ0) = 45
  · exact value_minus many R s σ0 w h5 h hp0 hs hG hR6
  by_cases h6 : 48 ≤ nextS s (blanksS s σ0) ∧ nextS s (blanksS s σ0) ≤ 57
  · exact value_digit many R s σ0 w h6 h hp0 hs hG hR6
  by_cases h7 : nextS s (blanksS s σ0) = 91
  · exact value_list s many D hM R σ0 w h7 h hp0 hs hG hR6 hD
  by_cases h8 : nextS s (blanksS s σ0) = 123
  · exact value_map s many D hM R σ0 w h8 h hp0 hs hG hR6 hD
  by_cases h9 : nextS s (blanksS s σ0) < 48
  · exact value_bad1 many R s σ0 w ⟨h9, h1, h2, h3, h4, h5, h6, h7, h8⟩ h hp0 hs
  · exact value_bad2 many R s σ0 w ⟨by omega, h1, h2, h3, h4, h5, h6, h7, h8⟩ h hp0 hs
end Go.Proofs.YtnnhkajjifmlfaaDoor

/-! What holds at each round's head of (*reader).many of package json, and what each step does to it. -/

namespace Go.Proofs.YtnnhkajjifmlfaaDoor
open Go.RowKit Go.Maps

structure MI (w wr : World) (s : ByteArray) (R : Nat) (τ : PS) (kind : Int) (names : List ByteArray) (list : List J) (nv lv : Value) : Prop where
  rl : R < w.heap.size
  rd : RD wr R s τ
  jb : JB wr (w.heap.size + 2) (.int .i64 kind) (.int .i64 0) (.string ⟨#[]⟩) nv lv
  bx : wr.heap[w.heap.size]? = some (.cells #[.pointer (some ⟨R, 0, none⟩)] 66 (0, 0))
  br : JB wr (w.heap.size + 1) (.int .i64 0) (.int .i64 0) (.string ⟨#[]⟩) (.slice none 0 0) (.slice none 0 0)
  hn : wr.ownsRow (w.heap.size + 3) 9 1 nv names.length (names.map Value.string)
  hl : ∃ xs S, wr.ownsRow (w.heap.size + 3) 26 5 lv list.length xs ∧ Flat wr S list xs ∧ ∀ b, S b → w.heap.size + 3 ≤ b ∧ b < wr.heap.size ∧ nv.ownBlock ≠ some b ∧ lv.ownBlock ≠ some b
  gb : w.grownBy wr (some R)

section
variable {w wr : World} {s : ByteArray} {R : Nat} {τ : PS} {kind : Int} {names : List ByteArray} {list : List J} {nv lv : Value}
theorem blk_kept {g : Nat} {o : Obj} {w' : World} {row : Option Nat} (h : wr.heap[g]? = some o) (hg : wr.grownBy w' row) (hne : some g ≠ row) : w'.heap[g]? = some o :=
  (hg.block g (Array.getElem?_eq_some_iff.1 h).1 hne).trans h
theorem MI.cells (h : MI w wr s R τ kind names list nv lv) : wr.cell? ⟨w.heap.size, 0, none⟩ = some (.pointer (some ⟨R, 0, none⟩)) := by
  rw [cell_of_row wr _ 0 _ _ _ h.bx]; rfl
/-- a call that turns the reader's block alone -/
theorem MI.same (h : MI w wr s R τ kind names list nv lv) {w' : World} {τ' : PS} (hR : RD w' R s τ') (hg : wr.grownBy w' (some R)) : MI w w' s R τ' kind names list nv lv := by
  have hl := h.rl
  obtain ⟨xs, S, h1, h2, h3⟩ := h.hl
  refine ⟨hl, hR, h.jb.kept hg (by simp; omega), blk_kept h.bx hg (by simp; omega), h.br.kept hg (by simp; omega), own_keptR h.hn hg (by omega), ⟨xs, S, own_keptR h1 hg (by omega), h2.keep (fun b hb => hg.block b (h3 b hb).2.1 (by have := (h3 b hb).1; simp; omega)) (fun _ => id), fun b hb => ⟨(h3 b hb).1, Nat.lt_of_lt_of_le (h3 b hb).2.1 hg.size, (h3 b hb).2.2⟩⟩, gb_trans h.gb hg⟩
theorem MI.drewN (h : MI w wr s R τ kind names list nv lv) (n : Nat) : MI w (wr.drewN n) s R τ kind names list nv lv := h.same (h.rd.drewN n) (gb_drewN (gb_refl _ _) n)
theorem MI.drew (h : MI w wr s R τ kind names list nv lv) : MI w wr.drew s R τ kind names list nv lv := h.same h.rd.drew (gb_drew (gb_refl _ _))
theorem own_ne {w : World} {b1 b2 e1 e2 z1 z2 n1 n2 : Nat} {v1 v2 : Value} {x1 x2 : List Value} (h1 : w.ownsRow b1 e1 z1 v1 n1 x1) (h2 : w.ownsRow b2 e2 z2 v2 n2 x2) (he : e1 ≠ e2) : v1.ownBlock = none ∨ v1.ownBlock ≠ v2.ownBlock := by
  rcases h1.2 with ⟨rfl, _⟩ | ⟨g, cap, cur, rfl, _, hh, _⟩
  · exact .inl rfl
  · refine .inr fun e => ?_
    rcases h2.2 with ⟨rfl, _⟩ | ⟨g', cap', cur', rfl, _, hh', _⟩
    · simp [Value.ownBlock] at e
    · simp only [Value.ownBlock, Option.some.injEq] at e
      subst e
      rw [hh] at hh'
      injection hh' with hh'
      injection hh' with _ ht
      exact he ht
/-- a row that is not the one appended to, when the row's owner has moved or stayed -/
theorem ne_own {row : Option Nat} {v v' : Value} {H : Nat} {b : Nat} (hat : v.ownBlock = some b ∨ b = H) (h1 : v.ownBlock ≠ row ∨ v.ownBlock = none) (h2 : ∀ k, row = some k → k < H) (_hv : v'.ownBlock = some b) : row ≠ some b := by
  rintro rfl
  rcases hat with h | h
  · rcases h1 with h1 | h1
    · exact h1 h
    · rw [h1] at h; cases h
  · have := h2 b rfl; omega
/-- v.Names = append(v.Names, t): behind the store -/
theorem MI.name (h : MI w wr s R τ kind names list nv lv) {t : ByteArray} {o : Obj} {w2 : World} {g cap : Nat}
    (hown : w2.ownsRow (w.heap.size + 3) 9 1 (.slice (some ⟨g, 0, none⟩) (names.length + 1) cap) (names.length + 1) (names.map Value.string ++ [.string t])) (hg : (wr.alloc o).grownBy w2 nv.ownBlock) (hat : nv.ownBlock = some g ∨ g = wr.heap.size + 1) :
    MI w (w2.setCell ⟨w.heap.size + 2, 3, none⟩ (.slice (some ⟨g, 0, none⟩) (names.length + 1) cap)) s R τ kind (names ++ [t]) list (.slice (some ⟨g, 0, none⟩) (names.length + 1) cap) lv := by
  have hrl := h.rl
  obtain ⟨xs, S, h1, h2, h3⟩ := h.hl
  have hnlt := h.hn.lt
  have hllt := h1.lt
  have hne := own_ne h1 h.hn (by decide)
  have hblk : ∀ b, b < wr.heap.size → nv.ownBlock ≠ some b → w2.heap[b]? = wr.heap[b]? := fun b hb hne => (hg.block b (by simp; omega) (Ne.symm hne)).trans (Below.heap_alloc wr o b hb)
  have hno : ∀ b, b ≤ w.heap.size + 2 → nv.ownBlock ≠ some b := fun b hb e => by have := (hnlt b e).1; omega
  have hsz : wr.heap.size + 1 ≤ w2.heap.size := by have := hg.size; simpa using this
  have hgg : w.heap.size + 3 ≤ g := by
    rcases hat with e | e
    · exact (hnlt g e).1
    · have := h.jb.lt; omega
  have hglt : g ≠ w.heap.size + 2 := by omega
  refine ⟨hrl, ?_, ?_, ?_, ?_, ?_, ⟨xs, S, ?_, ?_, ?_⟩, ?_⟩
  · exact RD.far ((hblk R h.rd.lt (hno R (by omega))).trans h.rd) (q := ⟨w.heap.size + 2, 3, none⟩) (by simp; omega) _
  · have hj : JB w2 (w.heap.size + 2) (.int .i64 kind) (.int .i64 0) (.string ⟨#[]⟩) nv lv := (hblk _ h.jb.lt (hno _ (by omega))).trans h.jb
    unfold JB at hj ⊢
    simp [World.setCell, Array.getElem?_modify, hj]
  · rw [Below.heap_setCell _ _ _ _ (by simp)]
    exact (hblk _ (by have := h.jb.lt; omega) (hno _ (by omega))).trans h.bx
  · exact JB.far ((hblk _ h.br.lt (hno _ (by omega))).trans h.br) (q := ⟨w.heap.size + 2, 3, none⟩) (by simp) _
  · rw [List.length_append, List.map_append]
    exact ownsRow_setCell_below hown (by simp) _
  · refine ownsRow_setCell_below (h1.alloc o |>.kept hg ?_) (by simp) _
    rcases hne with e | e
    · exact .inl e
    · exact .inr e
  · refine h2.keep (fun b hb => ?_) (fun _ => id)
    rw [Below.heap_setCell _ _ _ _ (by have := (h3 b hb).1; simp; omega)]
    exact hblk b (h3 b hb).2.1 (h3 b hb).2.2.1
  · intro b hb
    obtain ⟨q1, q2, q3, q4⟩ := h3 b hb
    refine ⟨q1, by simp [World.setCell]; omega, ?_, q4⟩
    simp only [Value.ownBlock, ne_eq, Option.some.injEq]
    rintro rfl
    rcases hat with e | e
    · exact q3 e
    · omega
  · exact gb_set (g := R) (gb_more (gb_alloc h.gb o) hg (fun k hk => .inr (by have := (hnlt k hk).1; omega))) (.inr (by simp)) _
/-- v.List = append(v.List, x): behind the store; x: what a call that began in a world of H0 blocks has left -/
theorem MI.elem (h : MI w wr s R τ kind names list nv lv) {j : J} {a0 a1 a2 a3 a4 : Value} {S' : Nat → Prop} {H0 : Nat} {xs : List Value} {S : Nat → Prop} {o : Obj} {w2 : World} {g cap : Nat}
    (h1 : wr.ownsRow (w.heap.size + 3) 26 5 lv list.length xs) (h2 : Flat wr S list xs) (h3 : ∀ b, S b → w.heap.size + 3 ≤ b ∧ b < wr.heap.size ∧ nv.ownBlock ≠ some b ∧ lv.ownBlock ≠ some b)
    (hj : JAt wr S' j (.agg #[a0, a1, a2, a3, a4])) (hS' : ∀ b, S' b → H0 ≤ b ∧ b < wr.heap.size) (hH : w.heap.size + 3 ≤ H0) (hnH : ∀ k, nv.ownBlock = some k → k < H0) (hlH : ∀ k, lv.ownBlock = some k → k < H0)
    (hown : w2.ownsRow (w.heap.size + 3) 26 5 (.slice (some ⟨g, 0, none⟩) (list.length + 1) cap) (list.length + 1) (xs ++ [a0, a1, a2, a3, a4])) (hg : (wr.alloc o).grownBy w2 lv.ownBlock) (hat : lv.ownBlock = some g ∨ g = wr.heap.size + 1) :
    MI w (w2.setCell ⟨w.heap.size + 2, 4, none⟩ (.slice (some ⟨g, 0, none⟩) (list.length + 1) cap)) s R τ kind names (list ++ [j]) nv (.slice (some ⟨g, 0, none⟩) (list.length + 1) cap) := by
  have hrl := h.rl
  have hnlt := h.hn.lt
  have hllt := h1.lt
  have hne := own_ne h.hn h1 (by decide)
  have hblk : ∀ b, b < wr.heap.size → lv.ownBlock ≠ some b → w2.heap[b]? = wr.heap[b]? := fun b hb hne => (hg.block b (by simp; omega) (Ne.symm hne)).trans (Below.heap_alloc wr o b hb)
  have hno : ∀ b, b ≤ w.heap.size + 2 → lv.ownBlock ≠ some b := fun b hb e => by have := (hllt b e).1; omega
  have hsz : wr.heap.size + 1 ≤ w2.heap.size := by have := hg.size; simpa using this
  refine ⟨hrl, ?_, ?_, ?_, ?_, ?_, ⟨xs ++ [a0, a1, a2, a3, a4], fun b => S b ∨ S' b, ?_, ?_, ?_⟩, ?_⟩
  · exact RD.far ((hblk R h.rd.lt (hno R (by omega))).trans h.rd) (q := ⟨w.heap.size + 2, 4, none⟩) (by simp; omega) _
  · have hj : JB w2 (w.heap.size + 2) (.int .i64 kind) (.int .i64 0) (.string ⟨#[]⟩) nv lv := (hblk _ h.jb.lt (hno _ (by omega))).trans h.jb
    unfold JB at hj ⊢
    simp [World.setCell, Array.getElem?_modify, hj]
  · rw [Below.heap_setCell _ _ _ _ (by simp)]
    exact (hblk _ (by have := h.jb.lt; omega) (hno _ (by omega))).trans h.bx
  · exact JB.far ((hblk _ h.br.lt (hno _ (by omega))).trans h.br) (q := ⟨w.heap.size + 2, 4, none⟩) (by simp) _
  · refine ownsRow_setCell_below (h.hn.alloc o |>.kept hg ?_) (by simp) _
    rcases hne with e | e
    · exact .inl e
    · exact .inr e
  · rw [List.length_append]
    exact ownsRow_setCell_below hown (by simp) _
  · have hk : ∀ b, S b ∨ S' b → (w2.setCell ⟨w.heap.size + 2, 4, none⟩ (.slice (some ⟨g, 0, none⟩) (list.length + 1) cap)).heap[b]? = wr.heap[b]? := by
      intro b hb
      have hb1 : w.heap.size + 3 ≤ b ∧ b < wr.heap.size ∧ lv.ownBlock ≠ some b := by
        rcases hb with hb | hb
        · exact ⟨(h3 b hb).1, (h3 b hb).2.1, (h3 b hb).2.2.2⟩
        · have := hS' b hb
          exact ⟨by omega, this.2, fun e => by have := hlH b e; omega⟩
      rw [Below.heap_setCell _ _ _ _ (by simp; omega)]
      exact hblk b hb1.2.1 hb1.2.2
    exact Flat.snoc (hj.keep (fun b hb => hk b (.inr hb)) (fun _ => .inr)) (h2.keep (fun b hb => hk b (.inl hb)) (fun _ => .inl))
  · intro b hb
    have hb1 : w.heap.size + 3 ≤ b ∧ b < wr.heap.size ∧ nv.ownBlock ≠ some b ∧ lv.ownBlock ≠ some b := by
      rcases hb with hb | hb
      · exact h3 b hb
      · have := hS' b hb
        exact ⟨by omega, this.2, fun e => (by have := hnH b e; omega), fun e => (by have := hlH b e; omega)⟩
    obtain ⟨q1, q2, q3, q4⟩ := hb1
    refine ⟨q1, by simp [World.setCell]; omega, q3, ?_⟩
    simp only [Value.ownBlock, ne_eq, Option.some.injEq]
    rintro rfl
    rcases hat with e | e
    · exact q4 e
    · omega
  · exact gb_set (g := R) (gb_more (gb_alloc h.gb o) hg (fun k hk => .inr (by have := (hllt k hk).1; omega))) (.inr (by simp)) _
theorem MI.alloc (h : MI w wr s R τ kind names list nv lv) (o : Obj) : MI w (wr.alloc o) s R τ kind names list nv lv := h.same (h.rd.alloc o) (gb_alloc (gb_refl _ _) o)
theorem MI.far (h : MI w wr s R τ kind names list nv lv) {o : Obj} {w2 : World} {row : Option Nat} (hg : (wr.alloc o).grownBy w2 row) (hr : ∀ k, row = some k → w.heap.size + 3 ≤ k) :
    w2.cell? ⟨w.heap.size, 0, none⟩ = some (.pointer (some ⟨R, 0, none⟩)) ∧ JB w2 (w.heap.size + 2) (.int .i64 kind) (.int .i64 0) (.string ⟨#[]⟩) nv lv := by
  have ha := h.alloc o
  have hno : ∀ b, b ≤ w.heap.size + 2 → some b ≠ row := fun b hb e => by have := hr b e.symm; omega
  refine ⟨?_, ha.jb.kept hg (hno _ (by omega))⟩
  rw [cell_of_row w2 _ 0 _ _ _ (blk_kept ha.bx hg (hno _ (by omega)))]; rfl
/-- what has been gathered, as a value -/
theorem MI.val (h : MI w wr s R τ kind names list nv lv) : ∃ S : Nat → Prop, JAt wr S (.mk kind 0 ⟨#[]⟩ names list) (.agg #[.int .i64 kind, .int .i64 0, .string ⟨#[]⟩, nv, lv]) ∧ ∀ b, S b → w.heap.size + 3 ≤ b ∧ b < wr.heap.size := by
  obtain ⟨xs, S, h1, h2, h3⟩ := h.hl
  refine ⟨fun b => S b ∨ nv.ownBlock = some b ∨ lv.ownBlock = some b, JAt.of_own h.hn h1 h2 (fun _ => .inl) (fun g hg => .inr (.inl hg)) (fun g hg => .inr (.inr hg)), ?_⟩
  rintro b (hb | hb | hb)
  · exact ⟨(h3 b hb).1, (h3 b hb).2.1⟩
  · exact h.hn.lt b hb
  · exact h1.lt b hb
/-- at the start -/
theorem MI.start (w : World) (s : ByteArray) (R : Nat) (τ : PS) (kind : Int) (h : RD w R s τ) :
    MI w (((w.alloc (.cells #[.pointer (some ⟨R, 0, none⟩)] 66)).alloc (.cells #[.int .i64 0, .int .i64 0, .string ⟨#[]⟩, .slice none 0 0, .slice none 0 0] 26)).alloc (.cells #[.int .i64 kind, .int .i64 0, .string ⟨#[]⟩, .slice none 0 0, .slice none 0 0] 26)) s R τ kind [] [] (.slice none 0 0) (.slice none 0 0) := by
  refine ⟨h.lt, ((h.alloc _).alloc _).alloc _, ?_, ?_, ?_, World.ownsRow_nil _ _ _ _, ⟨[], fun _ => False, World.ownsRow_nil _ _ _ _, rfl, fun _ hb => hb.elim⟩, gb_alloc (gb_alloc (gb_alloc (gb_refl w _) _) _) _⟩
  · have := JB.new ((w.alloc (.cells #[.pointer (some ⟨R, 0, none⟩)] 66)).alloc (.cells #[.int .i64 0, .int .i64 0, .string ⟨#[]⟩, .slice none 0 0, .slice none 0 0] 26)) (.int .i64 kind) (.int .i64 0) (.string ⟨#[]⟩) (.slice none 0 0) (.slice none 0 0)
    simpa using this
  · rw [Below.heap_alloc _ _ _ (by simp; omega), Below.heap_alloc _ _ _ (by simp)]
    exact heap_alloc_new w _
  · refine JB.alloc ?_ _
    have := JB.new (w.alloc (.cells #[.pointer (some ⟨R, 0, none⟩)] 66)) (.int .i64 0) (.int .i64 0) (.string ⟨#[]⟩) (.slice none 0 0) (.slice none 0 0)
    simpa using this
end
end Go.Proofs.YtnnhkajjifmlfaaDoor

/-! (*reader).many of package json: the way that is nested too deep; the deferred closure. -/

namespace Go.Proofs.YtnnhkajjifmlfaaDoor
open Go.RowKit Go.Maps

/-- the deferred closure: the depth is one less -/
theorem closure_many (b R : Nat) (s : ByteArray) (τ : PS) (u : FrameMode) (w : World) (hb : w.cell? ⟨b, 0, none⟩ = some (.pointer (some ⟨R, 0, none⟩))) (h : RD w R s τ) (hd : -100 ≤ τ.d ∧ τ.d ≤ 100) :
    CallsD Tryd.prog 131 #[.pointer (some ⟨b, 0, none⟩)] u w fun e u' w' => u' = u ∧ (e = .returned (.tuple #[]) ∧ w' = w.setCell ⟨R, 4, none⟩ (.int .i64 (τ.d - 1))) := by
  have c4 := h.c4
  have f4 := h.f 4
  obtain ⟨hd1, hd2⟩ := hd
  clear h
  go_enter_d Tryd.func131, Tryd.ntmps131
  go_wp2
  go_end0
  exact ⟨rfl, rfl⟩

set_option maxRecDepth 100000 in
set_option maxHeartbeats 1600000 in
theorem many_zero (s : ByteArray) (kind en : Int) (R : Nat) (σ : PS) (w : World) (h : RD w R s σ) (hd : σ.d = 64) :
    Calls Tryd.prog 85 #[.pointer (some ⟨R, 0, none⟩), .int .i64 kind, .int .u8 en] w (VP s R w (bare kind 0, failS σ 3 σ.p)) := by
  have hM := MI.start w s R σ kind h
  have hRl := h.lt
  have cx := hM.cells
  have c1 := hM.rd.c1
  have c4 := hM.rd.c4
  rw [hd] at c4
  clear hd
  go_enter_defers Tryd.func85, Tryd.ntmps85
  go_wp2_with fail
  go_region_held3 (fun w' => w'.cell? ⟨w.heap.size, 0, none⟩ = some (.pointer (some ⟨R, 0, none⟩)) ∧ w'.cell? ⟨R, 1, none⟩ = some (.int .i64 σ.p)) (first | go_keep | exact ⟨hMx.cells, by rw [← failS_p σ 3 σ.p]; exact hMx.rd.c1⟩)
    ((go_at_call 43; refine (fail_any R s σ 3 σ.p _ (by exact hM.rd.drew)).mono ?_; rintro e w5 ⟨rfl, hR5, hg5⟩; have hMx := hM.drew.same hR5 hg5))
  obtain ⟨m0, m1, m2, m3, m4, mf⟩ : w5.cell? ⟨w.heap.size + 1 + 1, 0, none⟩ = some (.int .i64 kind) ∧ w5.cell? ⟨w.heap.size + 1 + 1, 1, none⟩ = some (.int .i64 0) ∧ w5.cell? ⟨w.heap.size + 1 + 1, 2, none⟩ = some (.string ⟨#[]⟩) ∧ w5.cell? ⟨w.heap.size + 1 + 1, 3, none⟩ = some (.slice none 0 0) ∧ w5.cell? ⟨w.heap.size + 1 + 1, 4, none⟩ = some (.slice none 0 0) ∧ ∀ i, w5.frozen? ⟨w.heap.size + 1 + 1, i, none⟩ = false := hMx.jb.all
  obtain ⟨r0, r1, r2, r3, r4, rf⟩ := hMx.br.all
  go_wp2_with fail
  have hJ7 := hMx.br.put5 (.int .i64 kind) (.int .i64 0) (.string ⟨#[]⟩) (.slice none 0 0) (.slice none 0 0)
  obtain ⟨q0, q1, q2, q3, q4, qf⟩ := hJ7.all
  unfold put5 at q0 q1 q2 q3 q4
  refine ⟨.agg #[.int .i64 kind, .int .i64 0, .string ⟨#[]⟩, .slice none 0 0, .slice none 0 0], by simp [results, Tryd.results85, go_sem, q0, q1, q2, q3, q4], ?_⟩
  exact VP.bare (hR5.put5 (B := w.heap.size + 1) (by omega) _ _ _ _ _) (gb_put5 hMx.gb (by omega) _ _ _ _ _)
end Go.Proofs.YtnnhkajjifmlfaaDoor

/-! (*reader).many of package json: a list, given value. -/

namespace Go.Proofs.YtnnhkajjifmlfaaDoor
open Go.RowKit Go.Maps
attribute [local go_sem ↓] Go.wp_at_zero Go.wp_at_succ
theorem info26 : (Tryd.prog.info? 26).map (fun i => (i.zero, i.size, i.bytes)) = some (some (.agg #[.int .i64 0, .int .i64 0, .string ⟨#[]⟩, .slice none 0 0, .slice none 0 0]), 5, 80) := by kernel_rfl
theorem info9 : (Tryd.prog.info? 9).map (fun i => (i.zero, i.size, i.bytes)) = some (some (.string ⟨#[]⟩), 1, 16) := by kernel_rfl

def ValC (s : ByteArray) (val : PS → J × PS) (D : Int) : Prop :=
  ∀ (R : Nat) (σ : PS) (w : World), RD w R s σ → σ.p ≤ s.size → Gv w → 6 ≤ R → σ.d = D → Calls Tryd.prog 41 #[.pointer (some ⟨R, 0, none⟩)] w (VP s R w (val σ))

/-- behind the door: the value lies in the result's block, the depth is one less -/
theorem MI.done {w wr : World} {s : ByteArray} {R : Nat} {τ : PS} {kind : Int} {names : List ByteArray} {list : List J} {A1 A2 : Option Addr} {n1 c1 n2 c2 : Nat}
    (h : MI w wr s R τ kind names list (.slice A1 n1 c1) (.slice A2 n2 c2)) :
    VP s R w (outD (.mk kind 0 ⟨#[]⟩ names list, τ)) (.returned (.agg #[.int .i64 kind, .int .i64 0, .string ⟨#[]⟩, .slice A1 n1 c1, .slice A2 n2 c2]))
      ((put5 wr (w.heap.size + 1) (.int .i64 kind) (.int .i64 0) (.string ⟨#[]⟩) (.slice A1 n1 c1) (.slice A2 n2 c2)).setCell ⟨R, 4, none⟩ (.int .i64 (τ.d - 1))) := by
  obtain ⟨S, hj, hS⟩ := h.val
  have hl := h.rl
  refine ⟨A1, n1, c1, A2, n2, c2, S, rfl, hj.keep (fun b hb => ?_) (fun _ => id), fun b hb => ⟨by have := hS b hb; omega, ?_⟩, (h.rd.put5 (B := w.heap.size + 1) (by omega) _ _ _ _ _).set4 _, gb_setR (gb_put5 h.gb (by omega) _ _ _ _ _) _ _⟩
  · have := hS b hb
    rw [Below.heap_setCell _ _ _ _ (by simp; omega), put5_heap (by omega)]
  · have := hS b hb
    simp only [World.setCell, Array.size_modify]
    rw [put5_size]; exact this.2

/-- the deferred closure at the door of many -/
theorem many_door {w wr : World} {s : ByteArray} {R : Nat} {τ : PS} {kind : Int} {names : List ByteArray} {list : List J} {A1 A2 : Option Addr} {n1 c1 n2 c2 : Nat}
    (h : MI w wr s R τ kind names list (.slice A1 n1 c1) (.slice A2 n2 c2)) (hd : -100 ≤ τ.d ∧ τ.d ≤ 100) :
    CallsD Tryd.prog 131 #[.pointer (some ⟨w.heap.size, 0, none⟩)] .returning (put5 wr (w.heap.size + 1) (.int .i64 kind) (.int .i64 0) (.string ⟨#[]⟩) (.slice A1 n1 c1) (.slice A2 n2 c2))
      fun e u' w' => u' = .returning ∧ (e = .returned (.tuple #[]) ∧ w' = (put5 wr (w.heap.size + 1) (.int .i64 kind) (.int .i64 0) (.string ⟨#[]⟩) (.slice A1 n1 c1) (.slice A2 n2 c2)).setCell ⟨R, 4, none⟩ (.int .i64 (τ.d - 1))) := by
  have hl := h.rl
  refine closure_many w.heap.size R s τ .returning _ ?_ (h.rd.put5 (B := w.heap.size + 1) (by omega) _ _ _ _ _) hd
  have := World.cell?_of_block (w := wr) (w' := put5 wr (w.heap.size + 1) (.int .i64 kind) (.int .i64 0) (.string ⟨#[]⟩) (.slice A1 n1 c1) (.slice A2 n2 c2)) (a := ⟨w.heap.size, 0, none⟩) (put5_heap (by simp) _ _ _ _ _)
  rw [this]; exact h.cells

theorem need_one {s : ByteArray} {σ : PS} (c : Nat) (he : (needS s [c] σ).e = 0) : σ.p < (needS s [c] σ).p := by
  rw [needS_cons] at he ⊢
  simp only [needS] at he ⊢
  unfold needStep at he ⊢
  split
  · rename_i h; unfold takeS; rw [if_pos h]; simp
  · rename_i h; rw [if_neg h] at he
    unfold failS at he; split at he
    · simp at he
    · rename_i h2; exact absurd he h2
theorem need_mu {s : ByteArray} {ρ ρ3 : PS} {c : UInt8} (he : ρ.e = 0) (hge : ρ.p ≤ ρ3.p) (g : Goes s ρ3 (needS s (nats ⟨#[c]⟩) ρ3)) : mu s (needS s (nats ⟨#[c]⟩) ρ3) < mu s ρ := by
  unfold mu; rw [if_pos he]
  split
  · rename_i h
    have h1 := need_one c.toNat (s := s) (σ := ρ3) h
    have h2 : nats ⟨#[c]⟩ = [c.toNat] := rfl
    have := g.le
    rw [h2] at this ⊢; omega
  · omega

set_option maxRecDepth 100000 in
set_option maxHeartbeats 3200000 in
theorem many_list (s : ByteArray) (val : PS → J × PS) (D : Int) (hgo : ValGoes s val) (hV : ValC s val (D + 1)) (hD0 : 0 ≤ D) (hD1 : D < 64) (hs : s.size ≤ 2000000)
    (R : Nat) (σ : PS) (w : World) (h : RD w R s σ) (_he : σ.e = 0) (hlt : σ.p < s.size) (hG : Gv w) (hR6 : 6 ≤ R) (hd : σ.d = D) :
    Calls Tryd.prog 85 #[.pointer (some ⟨R, 0, none⟩), .int .i64 5, .int .u8 93] w (VP s R w (manyW s val 5 93 σ)) := by
  have hM := MI.start w s R σ 5 h
  have hRl := h.lt
  have hmf : ∀ (fn : Fn) (first cap : Array Value) (w : World), (Instr.makeFunc fn first cap).run Tryd.prog w = .ok (.func fn first cap) w := fun _ _ _ _ => rfl
  have cx := hM.cells
  have c1 := hM.rd.c1
  have c4 := hM.rd.c4
  have f1 := hM.rd.f 1
  have f4 := hM.rd.f 4
  have hdb : (σ.d == 64) = false := by simp; omega
  have hd0 : 0 ≤ σ.d := by omega
  have hd1 : σ.d < 64 := by omega
  have hM5 := hM.same (τ' := inD σ) ((hM.rd.set4 (σ.d + 1)).set1 (σ.p + 1)) (gb_setR (gb_setR (gb_refl _ _) 4 _) 1 _)
  have hgb := goes_blanks (s := s) (σ := inD σ) hlt
  have hpt := hgb.le
  have htd : (blanksS s (inD σ)).d = D + 1 := by rw [hgb.d]; simp [inD, hd]
  have HB := Lib.hid (blanks_any R s (inD σ) _ hM5.rd hlt hs)
  have HM5 := Lib.hid hM5
  clear hgb hd hM5
  have HW : Hid (manyW s val 5 93 σ = if takeB s (blanksS s (inD σ)) 93 then outD (bare 5 0, takeS s (blanksS s (inD σ)) 93) else outD (manyF s val 5 93 (s.size + 2) [] [] (blanksS s (inD σ)))) := rfl
  rw [HW.out]
  clear HW
  generalize blanksS s (inD σ) = τ at *
  go_enter_defers Tryd.func85, Tryd.ntmps85
  by_cases hq : takeB s τ 93 = true
  · go_wp2_with (first
      | (go_at_call 42; refine (HB.out).mono ?_; rintro e w1 ⟨rfl, hR1, hg1⟩; have HM1 := Lib.hid (HM5.out.same hR1 hg1); have cx1 := HM1.out.cells)
      | (go_at_call 128; refine (take_any R s τ 93 _ (by exact hR1) (by assumption) hs).mono ?_; rintro e w2 ⟨rfl, hR2, hg2⟩; have hM2 := HM1.out.same hR2 hg2; obtain ⟨m0, m1, m2, m3, m4, mf⟩ : w2.cell? ⟨w.heap.size + 1 + 1, 0, none⟩ = some (.int .i64 5) ∧ w2.cell? ⟨w.heap.size + 1 + 1, 1, none⟩ = some (.int .i64 0) ∧ w2.cell? ⟨w.heap.size + 1 + 1, 2, none⟩ = some (.string ⟨#[]⟩) ∧ w2.cell? ⟨w.heap.size + 1 + 1, 3, none⟩ = some (.slice none 0 0) ∧ w2.cell? ⟨w.heap.size + 1 + 1, 4, none⟩ = some (.slice none 0 0) ∧ ∀ i, w2.frozen? ⟨w.heap.size + 1 + 1, i, none⟩ = false := hM2.jb.all; obtain ⟨r0, r1, r2, r3, r4, rf⟩ := hM2.br.all))
    have hdb2 : -100 ≤ (takeS s τ 93).d ∧ (takeS s τ 93).d ≤ 100 := by have := (goes_take (s := s) hpt 93).d; omega
    refine leaves_cons (f := 131) (args := #[.pointer (some ⟨w.heap.size, 0, none⟩)]) (by simp) (by simp [go_sem]) ?_
    refine (many_door hM2 hdb2).mono ?_
    rintro e u' w'' ⟨rfl, rfl, rfl⟩
    refine ⟨.agg #[.int .i64 5, .int .i64 0, .string ⟨#[]⟩, .slice none 0 0, .slice none 0 0], ?_, ?_⟩
    · obtain ⟨q0, q1, q2, q3, q4, qf⟩ := (JB.far (hM2.br.put5 (.int .i64 5) (.int .i64 0) (.string ⟨#[]⟩) (.slice none 0 0) (.slice none 0 0)) (q := ⟨R, 4, none⟩) (by simp; omega) (.int .i64 ((takeS s τ 93).d - 1))).all
      simp [results, Tryd.results85, go_sem, q0, q1, q2, q3, q4]
    · exact hM2.done
  · have hqf : takeB s τ 93 = false := by simpa using hq
    have Hno := Lib.hid (takeS_no hqf)
    have hmu : mu s τ < s.size + 2 := by unfold mu; split <;> omega
    go_wp2_with (first
      | (go_at_call 42; refine (HB.out).mono ?_; rintro e w1 ⟨rfl, hR1, hg1⟩; have HM1 := Lib.hid (HM5.out.same hR1 hg1); have cx1 := HM1.out.cells)
      | (go_at_call 128; refine (take_any R s τ 93 _ (by exact hR1) (by assumption) hs).mono ?_; rintro e w2 ⟨rfl, hR2, hg2⟩; rw [Hno.out] at hR2))
    have HM2 := Lib.hid (HM1.out.same hR2 hg2)
    obtain ⟨i0, hi0, hz0, hz1, hz2⟩ := info_parts info26
    clear cx1 cx c1 c4 f1 f4 hR1 hR2
    go_loopg [] (s.size + 2) (fun k wr => ∃ (names : List ByteArray) (list : List J) (A1 : Option Addr) (n1 c1 : Nat) (A2 : Option Addr) (n2 c2 : Nat) (ρ : PS), ρ.p ≤ s.size ∧ mu s ρ < k ∧ list.length + k ≤ s.size + 2 ∧ ρ.d = D + 1 ∧
      Hid (manyF s val 5 93 k names list ρ = manyF s val 5 93 (s.size + 2) [] [] τ) ∧ Hid (MI w wr s R ρ 5 names list (.slice A1 n1 c1) (.slice A2 n2 c2)))
    case atStart => exact ⟨[], [], none, 0, 0, none, 0, 0, τ, hpt, hmu, by simp, htd, rfl, HM2.out⟩
    case round =>
      obtain ⟨names, list, A1, n1, c1, A2, n2, c2, ρ, hρ, hm, hal, hρd, HF, HM⟩ := hrel
      clear HM1 HM2 HB HM5 hg1 hg2 hq hqf Hno hmu
      obtain ⟨k, rfl⟩ : ∃ k, gk = k + 1 := ⟨gk - 1, by omega⟩
      have cx := HM.out.cells
      have ce := HM.out.rd.c2
      by_cases he0 : ρ.e = 0
      · have heb : (ρ.e == 0) = true := by simp [he0]
        have gB := goes_blanks (s := s) hρ
        have HF0 : Hid (manyF s val 5 93 (s.size + 2) [] [] τ = if takeB s (blanksS s (val (blanksS s ρ)).2) 93 then (.mk 5 0 ⟨#[]⟩ names (list ++ [(val (blanksS s ρ)).1]), takeS s (blanksS s (val (blanksS s ρ)).2) 93)
            else manyF s val 5 93 k names (list ++ [(val (blanksS s ρ)).1]) (needS s (nats ⟨#[44]⟩) (blanksS s (val (blanksS s ρ)).2))) := by
          rw [← HF.out, manyF, if_pos he0]; rfl
        clear HF
        have gV := hgo _ gB.le
        have gC := goes_blanks (s := s) gV.le
        have hge : ρ.p ≤ (blanksS s (val (blanksS s ρ)).2).p := Nat.le_trans gB.ge (Nat.le_trans gV.ge gC.ge)
        have hdV : (blanksS s ρ).d = D + 1 := gB.d.trans hρd
        have hdC : (blanksS s (val (blanksS s ρ)).2).d = D + 1 := gC.d.trans (gV.d.trans hdV)
        have hpB := gB.le
        have hpV := gV.le
        have hpC := gC.le
        have hGr := hG.kept HM.out.gb (by simpa using hR6)
        clear gB gV gC
        have HBl := fun (W : World) (hh : RD W R s ρ) => Lib.hid (blanks_any R s ρ W hh hρ hs)
        have HVl := fun (W : World) (hh : RD W R s (blanksS s ρ)) (hGW : Gv W) => Lib.hid (hV R (blanksS s ρ) W hh hpB hGW hR6 hdV)
        have HCl := fun (W : World) (hh : RD W R s (val (blanksS s ρ)).2) => Lib.hid (blanks_any R s _ W hh hpV hs)
        generalize blanksS s (val (blanksS s ρ)).2 = ρ3 at *
        generalize val (blanksS s ρ) = y at *
        obtain ⟨j, ρ2⟩ := y
        simp only at *
        generalize blanksS s ρ = ρ1 at *
        go_wp2_with (first
          | (go_at_call 42; refine ((HBl _ (by exact HM.out.rd)).out).mono ?_; rintro e w1 ⟨rfl, hR1, hg1⟩; have HM1 := Lib.hid (HM.out.same hR1 hg1); have cx1 := HM1.out.cells))
        have hG1 : Gv w1 := hGr.kept hg1 (by simpa using hR6)
        have cl1 : w1.cell? ⟨w.heap.size + 1 + 1, 4, none⟩ = some (.slice A2 n2 c2) := HM1.out.jb.c4
        have hl0 := HM1.out.hl
        have hnl := HM1.out.hn.lt
        go_cut [] from 43 to 77 (fun wx => ∃ (A3 : Option Addr) (n3 c3 : Nat), Hid (MI w wx s R ρ2 5 names (list ++ [j]) (.slice A1 n1 c1) (.slice A3 n3 c3)))
        case first =>
          refine wp_region_noPanic ?_
          go_region_law (first
            | (go_simp; go_at_call 41; refine ((HVl _ (by exact hR1.drew) hG1.drew).out).mono ?_; rintro e w3 ⟨A3, n3, c3, A4, n4, c4, S', rfl, hj, hS', hR3, hg3⟩; have HM3 := Lib.hid (HM1.out.drew.same hR3 hg3); have cx3 := HM3.out.cells; have cl3 : w3.cell? ⟨w.heap.size + 1 + 1, 4, none⟩ = some (.slice A2 n2 c2) := HM3.out.jb.c4; have cx5 := fun o => (HM3.out.alloc o).cells; have cl5 : ∀ o, (w3.alloc o).cell? ⟨w.heap.size + 1 + 1, 4, none⟩ = some (.slice A2 n2 c2) := fun o => (HM3.out.alloc o).jb.c4; obtain ⟨xs, S, hl1, hl2, hl3⟩ := HM3.out.hl)
            | (refine step_append_lies _ (by rfl) _ _ _ (by rfl) (w.heap.size + 3) 26 i0 _ 5 80 Tryd.underlying24 hi0 hz0 hz1 hz2 rfl (by omega) (.slice A2 n2 c2) list.length xs (by rfl) (hl1.alloc _)
                ⟨w3.heap.size, 0, none⟩ 1 1 [.int .i64 j.k, .int .i64 j.n, .string j.t, .slice A3 n3 c3, .slice A4 n4 c4] (by rfl) (by rfl) (World.news_of_block (cs := #[.int .i64 j.k, .int .i64 j.n, .string j.t, .slice A3 n3 c3, .slice A4 n4 c4]) (t := 26) (fr := (0, 0)) (heap_alloc_new w3 _)) (by simp [Value.oneCell'])
                (by omega) (by unfold maxLen; omega) (by omega) (by simp; have := HM3.out.jb.lt; omega) (w3.heap.size + 1) (by simp) ?_; intro gg cap w4 hown4 hgrow hat hlt4; obtain ⟨cx4, hj4⟩ := HM3.out.far hgrow (fun k hk => (hl1.lt k hk).1); have cl4 : w4.cell? ⟨w.heap.size + 1 + 1, 4, none⟩ = some (.slice A2 n2 c2) := hj4.c4; have fr4 : w4.frozen? ⟨w.heap.size + 1 + 1, 4, none⟩ = false := hj4.f 4))
          all_goals refine NoPanic.normal ?_
          all_goals go_wp2_with fail
          all_goals go_meet
          all_goals
            obtain ⟨xs0, S0, hl01, _, _⟩ := hl0
            have hbl := HM1.out.jb.lt
            exact ⟨_, _, _, HM3.out.elem (H0 := w1.heap.size) hl1 hl2 hl3 hj (by simpa using hS') hbl (fun k hk => (hnl k hk).2) (fun k hk => (hl01.lt k hk).2) hown4 hgrow hat⟩
        case rest =>
          obtain ⟨A3, n3, c3, HM3⟩ := hcut
          clear hl0 hnl cl1 cx cx1 HM HM1 hR1 hg1 hG1 HVl HBl
          have cx3 := HM3.out.cells
          by_cases hq2 : takeB s ρ3 93 = true
          · have HF1 : Hid (manyF s val 5 93 (s.size + 2) [] [] τ = (.mk 5 0 ⟨#[]⟩ names (list ++ [j]), takeS s ρ3 93)) := by rw [HF0.out, if_pos hq2]; rfl
            clear HF0
            go_wp2_with (first
              | (go_at_call 42; refine ((HCl _ (by exact HM3.out.rd)).out).mono ?_; rintro e w5 ⟨rfl, hR5, hg5⟩; have HM5 := Lib.hid (HM3.out.same hR5 hg5); have cx5 := HM5.out.cells)
              | (go_at_call 128; refine (take_any R s ρ3 93 _ (by exact hR5) hpC hs).mono ?_; rintro e w6 ⟨rfl, hR6', hg6⟩; have hM2 := HM5.out.same hR6' hg6; obtain ⟨m0, m1, m2, m3, m4, mf⟩ : w6.cell? ⟨w.heap.size + 1 + 1, 0, none⟩ = some (.int .i64 5) ∧ w6.cell? ⟨w.heap.size + 1 + 1, 1, none⟩ = some (.int .i64 0) ∧ w6.cell? ⟨w.heap.size + 1 + 1, 2, none⟩ = some (.string ⟨#[]⟩) ∧ w6.cell? ⟨w.heap.size + 1 + 1, 3, none⟩ = some (.slice A1 n1 c1) ∧ w6.cell? ⟨w.heap.size + 1 + 1, 4, none⟩ = some (.slice A3 n3 c3) ∧ ∀ i, w6.frozen? ⟨w.heap.size + 1 + 1, i, none⟩ = false := hM2.jb.all; obtain ⟨r0, r1, r2, r3, r4, rf⟩ := hM2.br.all))
            have hdb2 : -100 ≤ (takeS s ρ3 93).d ∧ (takeS s ρ3 93).d ≤ 100 := by have := (goes_take (s := s) hpC 93).d; omega
            refine leaves_cons (f := 131) (args := #[.pointer (some ⟨w.heap.size, 0, none⟩)]) (by simp) (by simp [go_sem]) ?_
            refine (many_door hM2 hdb2).mono ?_
            rintro e u' w'' ⟨rfl, rfl, rfl⟩
            refine ⟨.agg #[.int .i64 5, .int .i64 0, .string ⟨#[]⟩, .slice A1 n1 c1, .slice A3 n3 c3], ?_, ?_⟩
            · obtain ⟨q0, q1, q2, q3, q4, qf⟩ := (JB.far (hM2.br.put5 (.int .i64 5) (.int .i64 0) (.string ⟨#[]⟩) (.slice A1 n1 c1) (.slice A3 n3 c3)) (q := ⟨R, 4, none⟩) (by simp; omega) (.int .i64 ((takeS s ρ3 93).d - 1))).all
              simp [results, Tryd.results85, go_sem, q0, q1, q2, q3, q4]
            · rw [HF1.out]; exact hM2.done
          · have hq3 : takeB s ρ3 93 = false := by simpa using hq2
            have Hno := Lib.hid (takeS_no hq3)
            have HF1 : Hid (manyF s val 5 93 k names (list ++ [j]) (needS s (nats ⟨#[44]⟩) ρ3) = manyF s val 5 93 (s.size + 2) [] [] τ) := by rw [HF0.out, if_neg hq2]; rfl
            clear HF0 hq2
            have gN := goes_need (s := s) (nats ⟨#[44]⟩) hpC
            have hmN : mu s (needS s (nats ⟨#[44]⟩) ρ3) < mu s ρ := need_mu he0 hge gN
            have hdN : (needS s (nats ⟨#[44]⟩) ρ3).d = D + 1 := gN.d.trans hdC
            have hpN := gN.le
            clear gN
            have HN := fun (W : World) (hh : RD W R s ρ3) => Lib.hid (need_any R s ⟨#[44]⟩ ρ3 W hh hpC hs (by decide))
            generalize needS s (nats ⟨#[44]⟩) ρ3 = ρ4 at *
            go_wp2_with (first
              | (go_at_call 42; refine ((HCl _ (by exact HM3.out.rd)).out).mono ?_; rintro e w5 ⟨rfl, hR5, hg5⟩; have HM5 := Lib.hid (HM3.out.same hR5 hg5); have cx5 := HM5.out.cells)
              | (go_at_call 128; refine (take_any R s ρ3 93 _ (by exact hR5) hpC hs).mono ?_; rintro e w6 ⟨rfl, hR6', hg6⟩; rw [Hno.out] at hR6'; have HM6 := Lib.hid (HM5.out.same hR6' hg6); have cx6 := HM6.out.cells)
              | (go_at_call 82; refine ((HN _ (by exact HM6.out.rd)).out).mono ?_; rintro e w7 ⟨rfl, hR7, hg7⟩))
            go_roundg k
            case measure => omega
            case rel => exact ⟨names, list ++ [j], A1, n1, c1, A3, n3, c3, ρ4, hpN, by omega, by simp; omega, hdN, HF1, HM6.out.same hR7 hg7⟩
      · have heb : (ρ.e == 0) = false := by simpa using he0
        have HF1 : Hid (manyF s val 5 93 (s.size + 2) [] [] τ = (.mk 5 0 ⟨#[]⟩ names list, ρ)) := by
          rw [← HF.out, manyF, if_neg he0]; rfl
        clear HF he0
        have hM2 := HM.out
        obtain ⟨m0, m1, m2, m3, m4, mf⟩ : wr.cell? ⟨w.heap.size + 1 + 1, 0, none⟩ = some (.int .i64 5) ∧ wr.cell? ⟨w.heap.size + 1 + 1, 1, none⟩ = some (.int .i64 0) ∧ wr.cell? ⟨w.heap.size + 1 + 1, 2, none⟩ = some (.string ⟨#[]⟩) ∧ wr.cell? ⟨w.heap.size + 1 + 1, 3, none⟩ = some (.slice A1 n1 c1) ∧ wr.cell? ⟨w.heap.size + 1 + 1, 4, none⟩ = some (.slice A2 n2 c2) ∧ ∀ i, wr.frozen? ⟨w.heap.size + 1 + 1, i, none⟩ = false := hM2.jb.all
        obtain ⟨r0, r1, r2, r3, r4, rf⟩ := hM2.br.all
        go_wp2_with fail
        have hdb2 : -100 ≤ ρ.d ∧ ρ.d ≤ 100 := by omega
        refine leaves_cons (f := 131) (args := #[.pointer (some ⟨w.heap.size, 0, none⟩)]) (by simp) (by simp [go_sem]) ?_
        refine (many_door hM2 hdb2).mono ?_
        rintro e u' w'' ⟨rfl, rfl, rfl⟩
        refine ⟨.agg #[.int .i64 5, .int .i64 0, .string ⟨#[]⟩, .slice A1 n1 c1, .slice A2 n2 c2], ?_, ?_⟩
        · obtain ⟨q0, q1, q2, q3, q4, qf⟩ := (JB.far (hM2.br.put5 (.int .i64 5) (.int .i64 0) (.string ⟨#[]⟩) (.slice A1 n1 c1) (.slice A2 n2 c2)) (q := ⟨R, 4, none⟩) (by simp; omega) (.int .i64 (ρ.d - 1))).all
          simp [results, Tryd.results85, go_sem, q0, q1, q2, q3, q4]
        · rw [HF1.out]; exact hM2.done
end Go.Proofs.YtnnhkajjifmlfaaDoor

/-! (*reader).many of package json: a map, given value. -/

namespace Go.Proofs.YtnnhkajjifmlfaaDoor
open Go.RowKit Go.Maps
attribute [local go_sem ↓] Go.wp_at_zero Go.wp_at_succ

set_option maxRecDepth 100000 in
set_option maxHeartbeats 3200000 in
theorem many_map (s : ByteArray) (val : PS → J × PS) (D : Int) (hgo : ValGoes s val) (hV : ValC s val (D + 1)) (hD0 : 0 ≤ D) (hD1 : D < 64) (hs : s.size ≤ 2000000)
    (R : Nat) (σ : PS) (w : World) (h : RD w R s σ) (_he : σ.e = 0) (hlt : σ.p < s.size) (hG : Gv w) (hR6 : 6 ≤ R) (hd : σ.d = D) :
    Calls Tryd.prog 85 #[.pointer (some ⟨R, 0, none⟩), .int .i64 6, .int .u8 125] w (VP s R w (manyW s val 6 125 σ)) := by
  have hM := MI.start w s R σ 6 h
  have hRl := h.lt
  have hmf : ∀ (fn : Fn) (first cap : Array Value) (w : World), (Instr.makeFunc fn first cap).run Tryd.prog w = .ok (.func fn first cap) w := fun _ _ _ _ => rfl
  have cx := hM.cells
  have c1 := hM.rd.c1
  have c4 := hM.rd.c4
  have f1 := hM.rd.f 1
  have f4 := hM.rd.f 4
  have hdb : (σ.d == 64) = false := by simp; omega
  have hd0 : 0 ≤ σ.d := by omega
  have hd1 : σ.d < 64 := by omega
  have hM5 := hM.same (τ' := inD σ) ((hM.rd.set4 (σ.d + 1)).set1 (σ.p + 1)) (gb_setR (gb_setR (gb_refl _ _) 4 _) 1 _)
  have hgb := goes_blanks (s := s) (σ := inD σ) hlt
  have hpt := hgb.le
  have htd : (blanksS s (inD σ)).d = D + 1 := by rw [hgb.d]; simp [inD, hd]
  have HB := Lib.hid (blanks_any R s (inD σ) _ hM5.rd hlt hs)
  have HM5 := Lib.hid hM5
  clear hgb hd hM5
  have HW : Hid (manyW s val 6 125 σ = if takeB s (blanksS s (inD σ)) 125 then outD (bare 6 0, takeS s (blanksS s (inD σ)) 125) else outD (manyF s val 6 125 (s.size + 2) [] [] (blanksS s (inD σ)))) := rfl
  rw [HW.out]
  clear HW
  generalize blanksS s (inD σ) = τ at *
  go_enter_defers Tryd.func85, Tryd.ntmps85
  by_cases hq : takeB s τ 125 = true
  · go_wp2_with (first
      | (go_at_call 42; refine (HB.out).mono ?_; rintro e w1 ⟨rfl, hR1, hg1⟩; have HM1 := Lib.hid (HM5.out.same hR1 hg1); have cx1 := HM1.out.cells)
      | (go_at_call 128; refine (take_any R s τ 125 _ (by exact hR1) (by assumption) hs).mono ?_; rintro e w2 ⟨rfl, hR2, hg2⟩; have hM2 := HM1.out.same hR2 hg2; obtain ⟨m0, m1, m2, m3, m4, mf⟩ : w2.cell? ⟨w.heap.size + 1 + 1, 0, none⟩ = some (.int .i64 6) ∧ w2.cell? ⟨w.heap.size + 1 + 1, 1, none⟩ = some (.int .i64 0) ∧ w2.cell? ⟨w.heap.size + 1 + 1, 2, none⟩ = some (.string ⟨#[]⟩) ∧ w2.cell? ⟨w.heap.size + 1 + 1, 3, none⟩ = some (.slice none 0 0) ∧ w2.cell? ⟨w.heap.size + 1 + 1, 4, none⟩ = some (.slice none 0 0) ∧ ∀ i, w2.frozen? ⟨w.heap.size + 1 + 1, i, none⟩ = false := hM2.jb.all; obtain ⟨r0, r1, r2, r3, r4, rf⟩ := hM2.br.all))
    have hdb2 : -100 ≤ (takeS s τ 125).d ∧ (takeS s τ 125).d ≤ 100 := by have := (goes_take (s := s) hpt 125).d; omega
    refine leaves_cons (f := 131) (args := #[.pointer (some ⟨w.heap.size, 0, none⟩)]) (by simp) (by simp [go_sem]) ?_
    refine (many_door hM2 hdb2).mono ?_
    rintro e u' w'' ⟨rfl, rfl, rfl⟩
    refine ⟨.agg #[.int .i64 6, .int .i64 0, .string ⟨#[]⟩, .slice none 0 0, .slice none 0 0], ?_, ?_⟩
    · obtain ⟨q0, q1, q2, q3, q4, qf⟩ := (JB.far (hM2.br.put5 (.int .i64 6) (.int .i64 0) (.string ⟨#[]⟩) (.slice none 0 0) (.slice none 0 0)) (q := ⟨R, 4, none⟩) (by simp; omega) (.int .i64 ((takeS s τ 125).d - 1))).all
      simp [results, Tryd.results85, go_sem, q0, q1, q2, q3, q4]
    · exact hM2.done
  · have hqf : takeB s τ 125 = false := by simpa using hq
    have Hno := Lib.hid (takeS_no hqf)
    have hmu : mu s τ < s.size + 2 := by unfold mu; split <;> omega
    go_wp2_with (first
      | (go_at_call 42; refine (HB.out).mono ?_; rintro e w1 ⟨rfl, hR1, hg1⟩; have HM1 := Lib.hid (HM5.out.same hR1 hg1); have cx1 := HM1.out.cells)
      | (go_at_call 128; refine (take_any R s τ 125 _ (by exact hR1) (by assumption) hs).mono ?_; rintro e w2 ⟨rfl, hR2, hg2⟩; rw [Hno.out] at hR2))
    have HM2 := Lib.hid (HM1.out.same hR2 hg2)
    obtain ⟨i0, hi0, hz0, hz1, hz2⟩ := info_parts info26
    obtain ⟨i9, hi9, hy0, hy1, hy2⟩ := info_parts info9
    clear cx1 cx c1 c4 f1 f4 hR1 hR2
    go_loopg [] (s.size + 2) (fun k wr => ∃ (names : List ByteArray) (list : List J) (A1 : Option Addr) (n1 c1 : Nat) (A2 : Option Addr) (n2 c2 : Nat) (ρ : PS), ρ.p ≤ s.size ∧ mu s ρ < k ∧ list.length + k ≤ s.size + 2 ∧ names.length + k ≤ s.size + 2 ∧ ρ.d = D + 1 ∧
      Hid (manyF s val 6 125 k names list ρ = manyF s val 6 125 (s.size + 2) [] [] τ) ∧ Hid (MI w wr s R ρ 6 names list (.slice A1 n1 c1) (.slice A2 n2 c2)))
    case atStart => exact ⟨[], [], none, 0, 0, none, 0, 0, τ, hpt, hmu, by simp, by simp, htd, rfl, HM2.out⟩
    case round =>
      obtain ⟨names, list, A1, n1, c1, A2, n2, c2, ρ, hρ, hm, hal, haln, hρd, HF, HM⟩ := hrel
      clear HM1 HM2 HB HM5 hg1 hg2 hq hqf Hno hmu
      obtain ⟨k, rfl⟩ : ∃ k, gk = k + 1 := ⟨gk - 1, by omega⟩
      have cx := HM.out.cells
      have ce := HM.out.rd.c2
      by_cases he0 : ρ.e = 0
      · have heb : (ρ.e == 0) = true := by simp [he0]
        have gB := goes_blanks (s := s) hρ
        have gT := goes_text (s := s) gB.le
        have gTb := goes_blanks (s := s) gT.le
        have gTc := goes_need (s := s) (nats ⟨#[58]⟩) gTb.le
        have HF0 : Hid (manyF s val 6 125 (s.size + 2) [] [] τ =
          if takeB s (blanksS s (val (needS s (nats ⟨#[58]⟩) (blanksS s (textS s (blanksS s ρ)).2))).2) 125 then
            (.mk 6 0 ⟨#[]⟩ (names ++ [⟨(textS s (blanksS s ρ)).1.toArray⟩]) (list ++ [(val (needS s (nats ⟨#[58]⟩) (blanksS s (textS s (blanksS s ρ)).2))).1]), takeS s (blanksS s (val (needS s (nats ⟨#[58]⟩) (blanksS s (textS s (blanksS s ρ)).2))).2) 125)
          else manyF s val 6 125 k (names ++ [⟨(textS s (blanksS s ρ)).1.toArray⟩]) (list ++ [(val (needS s (nats ⟨#[58]⟩) (blanksS s (textS s (blanksS s ρ)).2))).1]) (needS s (nats ⟨#[44]⟩) (blanksS s (val (needS s (nats ⟨#[58]⟩) (blanksS s (textS s (blanksS s ρ)).2))).2))) := by
          rw [← HF.out, manyF, if_pos he0]; rfl
        clear HF
        have gV := hgo _ gTc.le
        have gC := goes_blanks (s := s) gV.le
        have hge : ρ.p ≤ (blanksS s (val (needS s (nats ⟨#[58]⟩) (blanksS s (textS s (blanksS s ρ)).2))).2).p := (gB.trans (gT.trans (gTb.trans (gTc.trans (gV.trans gC))))).ge
        have hdV : (needS s (nats ⟨#[58]⟩) (blanksS s (textS s (blanksS s ρ)).2)).d = D + 1 := (gB.trans (gT.trans (gTb.trans gTc))).d.trans hρd
        have hdC : (blanksS s (val (needS s (nats ⟨#[58]⟩) (blanksS s (textS s (blanksS s ρ)).2))).2).d = D + 1 := gC.d.trans (gV.d.trans hdV)
        have hpB := gB.le
        have hpT := gT.le
        have hpTb := gTb.le
        have hpTc := gTc.le
        have hpV := gV.le
        have hpC := gC.le
        have hGr := hG.kept HM.out.gb (by simpa using hR6)
        clear gB gV gC gT gTb gTc
        have HBl := fun (W : World) (hh : RD W R s ρ) => Lib.hid (blanks_any R s ρ W hh hρ hs)
        have HTl := fun (W : World) (hh : RD W R s (blanksS s ρ)) => Lib.hid (text_any R s (blanksS s ρ) W hh hpB hs)
        have HTb := fun (W : World) (hh : RD W R s (textS s (blanksS s ρ)).2) => Lib.hid (blanks_any R s _ W hh hpT hs)
        have HTc := fun (W : World) (hh : RD W R s (blanksS s (textS s (blanksS s ρ)).2)) => Lib.hid (need_any R s ⟨#[58]⟩ _ W hh hpTb hs (by decide))
        have HVl := fun (W : World) (hh : RD W R s (needS s (nats ⟨#[58]⟩) (blanksS s (textS s (blanksS s ρ)).2))) (hGW : Gv W) => Lib.hid (hV R _ W hh hpTc hGW hR6 hdV)
        have HCl := fun (W : World) (hh : RD W R s (val (needS s (nats ⟨#[58]⟩) (blanksS s (textS s (blanksS s ρ)).2))).2) => Lib.hid (blanks_any R s _ W hh hpV hs)
        generalize blanksS s (val (needS s (nats ⟨#[58]⟩) (blanksS s (textS s (blanksS s ρ)).2))).2 = ρ3 at *
        generalize val (needS s (nats ⟨#[58]⟩) (blanksS s (textS s (blanksS s ρ)).2)) = y at *
        obtain ⟨j, ρ2⟩ := y
        simp only at *
        generalize needS s (nats ⟨#[58]⟩) (blanksS s (textS s (blanksS s ρ)).2) = ρc at *
        generalize blanksS s (textS s (blanksS s ρ)).2 = ρb at *
        generalize textS s (blanksS s ρ) = z at *
        obtain ⟨T, ρt⟩ := z
        simp only at *
        generalize blanksS s ρ = ρ1 at *
        go_wp2_with (first
          | (go_at_call 42; refine ((HBl _ (by exact HM.out.rd)).out).mono ?_; rintro e w0 ⟨rfl, hR0, hg0⟩; have HM0 := Lib.hid (HM.out.same hR0 hg0); have cx0 := HM0.out.cells))
        have cn0 : w0.cell? ⟨w.heap.size + 1 + 1, 3, none⟩ = some (.slice A1 n1 c1) := HM0.out.jb.c3
        have hn0 := HM0.out.hn
        generalize hnames1 : names ++ [⟨T.toArray⟩] = names1 at *
        have Hnames1 := Lib.hid hnames1; clear hnames1
        go_cut [] from 43 to 77 (fun wx => ∃ (A3 : Option Addr) (n3 c3 : Nat), Hid (MI w wx s R ρt 6 names1 list (.slice A3 n3 c3) (.slice A2 n2 c2)))
        case first =>
          refine wp_region_noPanic ?_
          go_region_law (first
            | (go_simp; go_at_call 83; refine ((HTl _ (by exact hR0.drew)).out).mono ?_; rintro e w3 ⟨rfl, hR3, hg3⟩; have HM3 := Lib.hid (HM0.out.drew.same hR3 hg3); have cx3 := HM3.out.cells; have cn3 : w3.cell? ⟨w.heap.size + 1 + 1, 3, none⟩ = some (.slice A1 n1 c1) := HM3.out.jb.c3; have cx5 := fun o => (HM3.out.alloc o).cells; have cn5 : ∀ o, (w3.alloc o).cell? ⟨w.heap.size + 1 + 1, 3, none⟩ = some (.slice A1 n1 c1) := fun o => (HM3.out.alloc o).jb.c3; have hn3 := HM3.out.hn)
            | (refine step_append_lies _ (by rfl) _ _ _ (by rfl) (w.heap.size + 3) 9 i9 _ 1 16 Tryd.underlying23 hi9 hy0 hy1 hy2 rfl (by omega) (.slice A1 n1 c1) names.length (names.map Value.string) (by rfl) (hn3.alloc _)
                ⟨w3.heap.size, 0, none⟩ 1 1 [.string ⟨T.toArray⟩] (by rfl) (by rfl) (one_new _ _ rfl) (by simp [Value.oneCell'])
                (by omega) (by unfold maxLen; omega) (by omega) (by simp; have := HM3.out.jb.lt; omega) (w3.heap.size + 1) (by simp) ?_; intro gg cap w4 hown4 hgrow hat hlt4; obtain ⟨cx4, hj4⟩ := HM3.out.far hgrow (fun k hk => (hn3.lt k hk).1); have cn4 : w4.cell? ⟨w.heap.size + 1 + 1, 3, none⟩ = some (.slice A1 n1 c1) := hj4.c3; have fr4 : w4.frozen? ⟨w.heap.size + 1 + 1, 3, none⟩ = false := hj4.f 3))
          all_goals refine NoPanic.normal ?_
          all_goals go_wp2_with fail
          all_goals go_meet
          all_goals
            rw [← Hnames1.out]
            exact ⟨_, _, _, HM3.out.name hown4 hgrow hat⟩
        case rest =>
        obtain ⟨A4, n4, c4, HMt⟩ := hcut
        have hal1 : names1.length + k ≤ s.size + 2 := by rw [← Hnames1.out, List.length_append]; simp; omega
        clear HM HM0 hR0 hg0 hn0 cn0 cx0 cx HBl HTl Hnames1
        have cxt := HMt.out.cells
        have hGt := hG.kept HMt.out.gb (by simpa using hR6)
        clear hGr
        go_wp2_with (first
          | (go_at_call 42; refine ((HTb _ (by exact HMt.out.rd)).out).mono ?_; rintro e wb ⟨rfl, hRb, hgb⟩; have HMb := Lib.hid (HMt.out.same hRb hgb); have cxb := HMb.out.cells)
          | (go_at_call 82; refine ((HTc _ (by exact HMb.out.rd)).out).mono ?_; rintro e w1 ⟨rfl, hR1, hg1⟩; have HM1 := Lib.hid (HMb.out.same hR1 hg1); have cx1 := HM1.out.cells))
        have hG1 : Gv w1 := (hGt.kept hgb (by simpa using hR6)).kept hg1 (by simpa using hR6)
        clear HMt HMb cxt cxb hGt HTb HTc hRb hgb
        have cl1 : w1.cell? ⟨w.heap.size + 1 + 1, 4, none⟩ = some (.slice A2 n2 c2) := HM1.out.jb.c4
        have hl0 := HM1.out.hl
        have hnl := HM1.out.hn.lt
        go_cut [] from 43 to 77 (fun wx => ∃ (A3 : Option Addr) (n3 c3 : Nat), Hid (MI w wx s R ρ2 6 names1 (list ++ [j]) (.slice A4 n4 c4) (.slice A3 n3 c3)))
        case first =>
          refine wp_region_noPanic ?_
          go_region_law (first
            | (go_simp; go_at_call 41; refine ((HVl _ (by exact hR1.drew) hG1.drew).out).mono ?_; rintro e w3 ⟨A5, n5, c5, A6, n6, c6, S', rfl, hj, hS', hR3, hg3⟩; have HM3 := Lib.hid (HM1.out.drew.same hR3 hg3); have cx3 := HM3.out.cells; have cl3 : w3.cell? ⟨w.heap.size + 1 + 1, 4, none⟩ = some (.slice A2 n2 c2) := HM3.out.jb.c4; have cx5 := fun o => (HM3.out.alloc o).cells; have cl5 : ∀ o, (w3.alloc o).cell? ⟨w.heap.size + 1 + 1, 4, none⟩ = some (.slice A2 n2 c2) := fun o => (HM3.out.alloc o).jb.c4; obtain ⟨xs, S, hl1, hl2, hl3⟩ := HM3.out.hl)
            | (refine step_append_lies _ (by rfl) _ _ _ (by rfl) (w.heap.size + 3) 26 i0 _ 5 80 Tryd.underlying24 hi0 hz0 hz1 hz2 rfl (by omega) (.slice A2 n2 c2) list.length xs (by rfl) (hl1.alloc _)
                ⟨w3.heap.size, 0, none⟩ 1 1 [.int .i64 j.k, .int .i64 j.n, .string j.t, .slice A5 n5 c5, .slice A6 n6 c6] (by rfl) (by rfl) (World.news_of_block (cs := #[.int .i64 j.k, .int .i64 j.n, .string j.t, .slice A5 n5 c5, .slice A6 n6 c6]) (t := 26) (fr := (0, 0)) (heap_alloc_new w3 _)) (by simp [Value.oneCell'])
                (by omega) (by unfold maxLen; omega) (by omega) (by simp; have := HM3.out.jb.lt; omega) (w3.heap.size + 1) (by simp) ?_; intro gg cap w4 hown4 hgrow hat hlt4; obtain ⟨cx4, hj4⟩ := HM3.out.far hgrow (fun k hk => (hl1.lt k hk).1); have cl4 : w4.cell? ⟨w.heap.size + 1 + 1, 4, none⟩ = some (.slice A2 n2 c2) := hj4.c4; have fr4 : w4.frozen? ⟨w.heap.size + 1 + 1, 4, none⟩ = false := hj4.f 4))
          all_goals refine NoPanic.normal ?_
          all_goals go_wp2_with fail
          all_goals go_meet
          all_goals
            obtain ⟨xs0, S0, hl01, _, _⟩ := hl0
            have hbl := HM1.out.jb.lt
            exact ⟨_, _, _, HM3.out.elem (H0 := w1.heap.size) hl1 hl2 hl3 hj (by simpa using hS') hbl (fun k hk => (hnl k hk).2) (fun k hk => (hl01.lt k hk).2) hown4 hgrow hat⟩
        case rest =>
          obtain ⟨A3, n3, c3, HM3⟩ := hcut
          clear hl0 hnl cl1 cx1 HM1 hR1 hg1 hG1 HVl
          have cx3 := HM3.out.cells
          by_cases hq2 : takeB s ρ3 125 = true
          · have HF1 : Hid (manyF s val 6 125 (s.size + 2) [] [] τ = (.mk 6 0 ⟨#[]⟩ names1 (list ++ [j]), takeS s ρ3 125)) := by rw [HF0.out, if_pos hq2]; rfl
            clear HF0
            go_wp2_with (first
              | (go_at_call 42; refine ((HCl _ (by exact HM3.out.rd)).out).mono ?_; rintro e w5 ⟨rfl, hR5, hg5⟩; have HM5 := Lib.hid (HM3.out.same hR5 hg5); have cx5 := HM5.out.cells)
              | (go_at_call 128; refine (take_any R s ρ3 125 _ (by exact hR5) hpC hs).mono ?_; rintro e w6 ⟨rfl, hR6', hg6⟩; have hM2 := HM5.out.same hR6' hg6; obtain ⟨m0, m1, m2, m3, m4, mf⟩ : w6.cell? ⟨w.heap.size + 1 + 1, 0, none⟩ = some (.int .i64 6) ∧ w6.cell? ⟨w.heap.size + 1 + 1, 1, none⟩ = some (.int .i64 0) ∧ w6.cell? ⟨w.heap.size + 1 + 1, 2, none⟩ = some (.string ⟨#[]⟩) ∧ w6.cell? ⟨w.heap.size + 1 + 1, 3, none⟩ = some (.slice A4 n4 c4) ∧ w6.cell? ⟨w.heap.size + 1 + 1, 4, none⟩ = some (.slice A3 n3 c3) ∧ ∀ i, w6.frozen? ⟨w.heap.size + 1 + 1, i, none⟩ = false := hM2.jb.all; obtain ⟨r0, r1, r2, r3, r4, rf⟩ := hM2.br.all))
            have hdb2 : -100 ≤ (takeS s ρ3 125).d ∧ (takeS s ρ3 125).d ≤ 100 := by have := (goes_take (s := s) hpC 125).d; omega
            refine leaves_cons (f := 131) (args := #[.pointer (some ⟨w.heap.size, 0, none⟩)]) (by simp) (by simp [go_sem]) ?_
            refine (many_door hM2 hdb2).mono ?_
            rintro e u' w'' ⟨rfl, rfl, rfl⟩
            refine ⟨.agg #[.int .i64 6, .int .i64 0, .string ⟨#[]⟩, .slice A4 n4 c4, .slice A3 n3 c3], ?_, ?_⟩
            · obtain ⟨q0, q1, q2, q3, q4, qf⟩ := (JB.far (hM2.br.put5 (.int .i64 6) (.int .i64 0) (.string ⟨#[]⟩) (.slice A4 n4 c4) (.slice A3 n3 c3)) (q := ⟨R, 4, none⟩) (by simp; omega) (.int .i64 ((takeS s ρ3 125).d - 1))).all
              simp [results, Tryd.results85, go_sem, q0, q1, q2, q3, q4]
            · rw [HF1.out]; exact hM2.done
          · have hq3 : takeB s ρ3 125 = false := by simpa using hq2
            have Hno := Lib.hid (takeS_no hq3)
            have HF1 : Hid (manyF s val 6 125 k names1 (list ++ [j]) (needS s (nats ⟨#[44]⟩) ρ3) = manyF s val 6 125 (s.size + 2) [] [] τ) := by rw [HF0.out, if_neg hq2]; rfl
            clear HF0 hq2
            have gN := goes_need (s := s) (nats ⟨#[44]⟩) hpC
            have hmN : mu s (needS s (nats ⟨#[44]⟩) ρ3) < mu s ρ := need_mu he0 hge gN
            have hdN : (needS s (nats ⟨#[44]⟩) ρ3).d = D + 1 := gN.d.trans hdC
            have hpN := gN.le
            clear gN
            have HN := fun (W : World) (hh : RD W R s ρ3) => Lib.hid (need_any R s ⟨#[44]⟩ ρ3 W hh hpC hs (by decide))
            generalize needS s (nats ⟨#[44]⟩) ρ3 = ρ4 at *
            go_wp2_with (first
              | (go_at_call 42; refine ((HCl _ (by exact HM3.out.rd)).out).mono ?_; rintro e w5 ⟨rfl, hR5, hg5⟩; have HM5 := Lib.hid (HM3.out.same hR5 hg5); have cx5 := HM5.out.cells)
              | (go_at_call 128; refine (take_any R s ρ3 125 _ (by exact hR5) hpC hs).mono ?_; rintro e w6 ⟨rfl, hR6', hg6⟩; rw [Hno.out] at hR6'; have HM6 := Lib.hid (HM5.out.same hR6' hg6); have cx6 := HM6.out.cells)
              | (go_at_call 82; refine ((HN _ (by exact HM6.out.rd)).out).mono ?_; rintro e w7 ⟨rfl, hR7, hg7⟩))
            go_roundg k
            case measure => omega
            case rel => exact ⟨names1, list ++ [j], A4, n4, c4, A3, n3, c3, ρ4, hpN, by omega, by simp; omega, by omega, hdN, HF1, HM6.out.same hR7 hg7⟩
      · have heb : (ρ.e == 0) = false := by simpa using he0
        have HF1 : Hid (manyF s val 6 125 (s.size + 2) [] [] τ = (.mk 6 0 ⟨#[]⟩ names list, ρ)) := by
          rw [← HF.out, manyF, if_neg he0]; rfl
        clear HF he0
        have hM2 := HM.out
        obtain ⟨m0, m1, m2, m3, m4, mf⟩ : wr.cell? ⟨w.heap.size + 1 + 1, 0, none⟩ = some (.int .i64 6) ∧ wr.cell? ⟨w.heap.size + 1 + 1, 1, none⟩ = some (.int .i64 0) ∧ wr.cell? ⟨w.heap.size + 1 + 1, 2, none⟩ = some (.string ⟨#[]⟩) ∧ wr.cell? ⟨w.heap.size + 1 + 1, 3, none⟩ = some (.slice A1 n1 c1) ∧ wr.cell? ⟨w.heap.size + 1 + 1, 4, none⟩ = some (.slice A2 n2 c2) ∧ ∀ i, wr.frozen? ⟨w.heap.size + 1 + 1, i, none⟩ = false := hM2.jb.all
        obtain ⟨r0, r1, r2, r3, r4, rf⟩ := hM2.br.all
        go_wp2_with fail
        have hdb2 : -100 ≤ ρ.d ∧ ρ.d ≤ 100 := by omega
        refine leaves_cons (f := 131) (args := #[.pointer (some ⟨w.heap.size, 0, none⟩)]) (by simp) (by simp [go_sem]) ?_
        refine (many_door hM2 hdb2).mono ?_
        rintro e u' w'' ⟨rfl, rfl, rfl⟩
        refine ⟨.agg #[.int .i64 6, .int .i64 0, .string ⟨#[]⟩, .slice A1 n1 c1, .slice A2 n2 c2], ?_, ?_⟩
        · obtain ⟨q0, q1, q2, q3, q4, qf⟩ := (JB.far (hM2.br.put5 (.int .i64 6) (.int .i64 0) (.string ⟨#[]⟩) (.slice A1 n1 c1) (.slice A2 n2 c2)) (q := ⟨R, 4, none⟩) (by simp; omega) (.int .i64 (ρ.d - 1))).all
          simp [results, Tryd.results85, go_sem, q0, q1, q2, q3, q4]
        · rw [HF1.out]; exact hM2.done
end Go.Proofs.YtnnhkajjifmlfaaDoor

/-! json.Parse: it computes parseS. -/

namespace Go.Proofs.YtnnhkajjifmlfaaDoor
open Go.RowKit Go.Maps

theorem many_any (s : ByteArray) (hs : s.size ≤ 2000000) : ∀ (k : Nat), k ≤ 64 → ManyC s (manyD s k) (64 - k)
  | 0, _ => fun kind en R σ w h _ _ _ _ hd _ => many_zero s kind en R σ w h (by simpa using hd)
  | k + 1, hk => by
    have hV : ValC s (valueW s (manyD s k)) (64 - ((k + 1 : Nat) : Int) + 1) := fun R σ w h hp hG hR6 hd =>
      value_any s (manyD s k) (64 - k) (many_any s hs k (by omega)) R σ w h hp hs hG hR6 (by omega)
    rintro kind en R σ w h he hlt hG hR6 hd (⟨rfl, rfl⟩ | ⟨rfl, rfl⟩)
    · exact many_list s _ _ (goes_valueW (goes_manyD k)) hV (by omega) (by omega) hs R σ w h he hlt hG hR6 hd
    · exact many_map s _ _ (goes_valueW (goes_manyD k)) hV (by omega) (by omega) hs R σ w h he hlt hG hR6 hd

theorem value_top (s : ByteArray) (hs : s.size ≤ 2000000) (R : Nat) (σ : PS) (w : World) (h : RD w R s σ) (hp : σ.p ≤ s.size) (hG : Gv w) (hR6 : 6 ≤ R) (hd : σ.d = 0) :
    Calls Tryd.prog 41 #[.pointer (some ⟨R, 0, none⟩)] w (VP s R w (valueD s 64 σ)) :=
  value_any s (manyD s 64) 0 (by simpa using many_any s hs 64 (Nat.le_refl _)) R σ w h hp hs hG hR6 hd

def endS (s : ByteArray) (σ : PS) : PS := if σ.p < s.size then failS σ 4 σ.p else σ
/-- the reader behind the whole text -/
def topS (s : ByteArray) : J × PS := ((valueD s 64 ⟨0, 0, 0, 0⟩).1, endS s (blanksS s (valueD s 64 ⟨0, 0, 0, 0⟩).2))
def outP (x : J × PS) : J × Int × Int := if x.2.e = 0 then (x.1, 0, 0) else (bare 0 0, x.2.bad, x.2.e)
/-- what Parse hands back: the value, the place, the error -/
def parseS (s : ByteArray) : J × Int × Int :=
  if 1048576 < s.size then (bare 0 0, -1, 3)
  else outP (topS s)
/-- a value in new memory -/
def RP (w : World) (x : J × Int × Int) (e : Ending) (w' : World) : Prop :=
  ∃ (A1 : Option Addr) (n1 c1 : Nat) (A2 : Option Addr) (n2 c2 : Nat) (S : Nat → Prop),
    e = .returned (.tuple #[.agg #[.int .i64 x.1.k, .int .i64 x.1.n, .string x.1.t, .slice A1 n1 c1, .slice A2 n2 c2], .int .i64 x.2.1, .int .i64 x.2.2]) ∧
    JAt w' S x.1 (.agg #[.int .i64 x.1.k, .int .i64 x.1.n, .string x.1.t, .slice A1 n1 c1, .slice A2 n2 c2]) ∧
    (∀ b, S b → w.heap.size ≤ b ∧ b < w'.heap.size) ∧ w.grownBy w' none

theorem RD.new {w : World} {n : Nat} (s : ByteArray) (hn : w.heap.size = n) : RD (w.alloc (.cells #[.string s, .int .i64 0, .int .i64 0, .int .i64 0, .int .i64 0] 68)) n s ⟨0, 0, 0, 0⟩ := by
  subst hn; exact heap_alloc_new w _
theorem JB.size_ (w : World) (B : Nat) (a b c d e : Value) : w.heap.size ≤ (YtnnhkajjifmlfaaDoor.put5 w B a b c d e).heap.size := by rw [put5_size]; exact Nat.le_refl _

set_option maxRecDepth 100000 in
set_option maxHeartbeats 1600000 in
theorem parse_long (s : ByteArray) (w : World) (hs : 1048576 < s.size) (hs2 : s.size ≤ 9223372036854775807) : Calls Tryd.prog 13 #[.string s] w (RP w (parseS s)) := by
  have HP : parseS s = (bare 0 0, -1, 3) := by unfold parseS; rw [if_pos hs]
  rw [HP]; clear HP
  have hsI : (1048576 : Int) < (s.size : Int) := by omega
  have hJ0 := JB.new w (.int .i64 0) (.int .i64 0) (.string ⟨#[]⟩) (.slice none 0 0) (.slice none 0 0)
  go_enter Tryd.func13, Tryd.ntmps13
  go_wp2_with fail
  refine bodyPost_ret (v := .tuple #[.agg #[.int .i64 0, .int .i64 0, .string ⟨#[]⟩, .slice none 0 0, .slice none 0 0], .int .i64 (-1), .int .i64 3]) (by simp [results, Tryd.results13, go_sem]) rfl ?_
  exact ⟨none, 0, 0, none, 0, 0, fun _ => False, rfl, .bare _ _ _, fun _ h => h.elim, gb_alloc (gb_refl w _) _⟩

set_option maxRecDepth 100000 in
set_option maxHeartbeats 1600000 in
theorem parse_short (s : ByteArray) (w : World) (hs1 : s.size ≤ 1048576) (hG : Gv w) (hw6 : 6 ≤ w.heap.size) : Calls Tryd.prog 13 #[.string s] w (RP w (parseS s)) := by
  have HP : Hid (parseS s = outP (topS s)) := by unfold Hid parseS; rw [if_neg (by omega)]
  rw [HP.out]; clear HP
  have hs : s.size ≤ 2000000 := by omega
  have hsI : (s.size : Int) ≤ 1048576 := by omega
  have hgo := goes_valueD (s := s) 64 ⟨0, 0, 0, 0⟩ (Nat.zero_le _)
  have hpV := hgo.le
  have hgb := goes_blanks (s := s) hpV
  have hpB := hgb.le
  have HV := fun (R : Nat) (W : World) (hh : RD W R s ⟨0, 0, 0, 0⟩) (hGW : Gv W) (hR : 6 ≤ R) => Lib.hid (value_top s hs R ⟨0, 0, 0, 0⟩ W hh (Nat.zero_le _) hGW hR rfl)
  have HB := fun (R : Nat) (W : World) (hh : RD W R s (valueD s 64 ⟨0, 0, 0, 0⟩).2) => Lib.hid (blanks_any R s _ W hh hpV hs)
  unfold topS
  clear hgo hgb
  generalize blanksS s (valueD s 64 ⟨0, 0, 0, 0⟩).2 = σ2 at *
  generalize valueD s 64 ⟨0, 0, 0, 0⟩ = y at *
  obtain ⟨j, σ1⟩ := y
  simp only at *
  have hJ0 := JB.new w (.int .i64 0) (.int .i64 0) (.string ⟨#[]⟩) (.slice none 0 0) (.slice none 0 0)
  have hR0 := RD.new (w := w.alloc (.cells #[.int .i64 0, .int .i64 0, .string ⟨#[]⟩, .slice none 0 0, .slice none 0 0] 26)) (n := w.heap.size + 1) s (by simp)
  go_enter Tryd.func13, Tryd.ntmps13
  go_wp2_with (first
    | (go_at_call 41; refine ((HV _ _ (by exact hR0) ((hG.alloc _).alloc _) (by omega)).out).mono ?_; rintro e w3 ⟨A3, n3, c3, A4, n4, c4, S, rfl, hj, hS, hR3, hg3⟩; have hJ3 := (hJ0.alloc _).kept hg3 (by simp); obtain ⟨k0, k1, k2, k3, k4, kf⟩ := hJ3.all))
  have hJ4 := hJ3.put5 (.int .i64 j.k) (.int .i64 j.n) (.string j.t) (.slice A3 n3 c3) (.slice A4 n4 c4)
  have hS' : ∀ b, S b → w.heap.size + 2 ≤ b ∧ b < w3.heap.size := fun b hb => by have := hS b hb; simp at this; omega
  have hj4 := hj.keep (w' := put5 w3 w.heap.size (.int .i64 j.k) (.int .i64 j.n) (.string j.t) (.slice A3 n3 c3) (.slice A4 n4 c4)) (S' := S) (fun b hb => put5_heap (by have := hS' b hb; omega) _ _ _ _ _) (fun _ => id)
  have hg4 : w.grownBy (put5 w3 w.heap.size (.int .i64 j.k) (.int .i64 j.n) (.string j.t) (.slice A3 n3 c3) (.slice A4 n4 c4)) none :=
    gb_put5 (gb_more (gb_alloc (gb_alloc (gb_refl w none) _) _) hg3 (by intro g hgx; cases hgx; exact .inr (by omega))) (Nat.le_refl _) _ _ _ _ _
  have hS4 : ∀ b, S b → w.heap.size + 2 ≤ b ∧ b < (put5 w3 w.heap.size (.int .i64 j.k) (.int .i64 j.n) (.string j.t) (.slice A3 n3 c3) (.slice A4 n4 c4)).heap.size := fun b hb => ⟨(hS' b hb).1, by rw [put5_size]; exact (hS' b hb).2⟩
  have hR4 := hR3.put5 (B := w.heap.size) (by omega) (.int .i64 j.k) (.int .i64 j.n) (.string j.t) (.slice A3 n3 c3) (.slice A4 n4 c4)
  have HB4 := HB _ _ hR4
  clear HB HV hR0 hJ0 hR3 hJ3 k0 k1 k2 k3 k4 kf hj hS hS' hg3
  unfold put5 at hJ4 hj4 hg4 hS4 hR4 HB4
  generalize ((((w3.setCell ⟨w.heap.size, 0, none⟩ (.int .i64 j.k)).setCell ⟨w.heap.size, 1, none⟩ (.int .i64 j.n)).setCell ⟨w.heap.size, 2, none⟩ (.string j.t)).setCell ⟨w.heap.size, 3, none⟩ (.slice A3 n3 c3)).setCell ⟨w.heap.size, 4, none⟩ (.slice A4 n4 c4) = w4 at *
  go_upto_if 23 with (first
    | (go_at_call 42; refine (HB4.out).mono ?_; rintro e w5 ⟨rfl, hR5, hg5⟩; have c51 := hR5.c1))
  go_cut [] (fun wx => RD wx (w.heap.size + 1) s (endS s σ2) ∧ w4.grownBy wx (some (w.heap.size + 1)))
  case first =>
    by_cases hlt : σ2.p < s.size
    · have HE : Hid (endS s σ2 = failS σ2 4 σ2.p) := by unfold Hid endS; rw [if_pos hlt]
      have hltI : (σ2.p : Int) < (s.size : Int) := by omega
      go_wp2_with (first
        | (go_at_call 43; refine (fail_any _ s σ2 4 σ2.p _ (by exact hR5)).mono ?_; rintro e w6 ⟨rfl, hR6, hg6⟩))
      go_meet
      exact ⟨by rw [HE.out]; exact hR6, gb_trans hg5 hg6⟩
    · have HE : Hid (endS s σ2 = σ2) := by unfold Hid endS; rw [if_neg hlt]
      have hltI : ¬ (σ2.p : Int) < (s.size : Int) := by omega
      go_wp2_with fail
      go_meet
      exact ⟨by rw [HE.out]; exact hR5, hg5⟩
  case rest =>
    obtain ⟨hR6, hg6⟩ := hcut
    have hJ6 := hJ4.kept hg6 (by simp)
    obtain ⟨k0, k1, k2, k3, k4, kf⟩ := hJ6.all
    have hS6 : ∀ b, S b → w.heap.size + 2 ≤ b ∧ b < wc.heap.size := fun b hb => ⟨(hS4 b hb).1, Nat.lt_of_lt_of_le (hS4 b hb).2 hg6.size⟩
    have hg7 : w.grownBy wc none := gb_more hg4 hg6 (by intro g hgx; cases hgx; exact .inr (by omega))
    have hj6 := hj4.keep (w' := wc) (S' := S) (fun b hb => hg6.block b (hS4 b hb).2 (by have := (hS4 b hb).1; simp; omega)) (fun _ => id)
    clear c51 hj4 hJ4 hg4 hS4 hR4 HB4 hR5 hg5 hg6
    generalize endS s σ2 = ρ at *
    have cr2 := hR6.c2
    have cr3 := hR6.c3
    by_cases he : ρ.e = 0
    · have heb : (ρ.e != 0) = false := by simp [he]
      have HO : Hid (outP (j, ρ) = (j, 0, 0)) := by unfold Hid outP; rw [if_pos he]
      clear he
      go_wp2_with fail
      have hJ7 := hJ6.put5 (.int .i64 j.k) (.int .i64 j.n) (.string j.t) (.slice A3 n3 c3) (.slice A4 n4 c4)
      obtain ⟨q0, q1, q2, q3, q4, qf⟩ := hJ7.all
      unfold put5 at q0 q1 q2 q3 q4
      refine bodyPost_ret (v := .tuple #[.agg #[.int .i64 j.k, .int .i64 j.n, .string j.t, .slice A3 n3 c3, .slice A4 n4 c4], .int .i64 0, .int .i64 0]) (by simp [results, Tryd.results13, go_sem, q0, q1, q2, q3, q4]) rfl ?_
      rw [HO.out]
      refine ⟨A3, n3, c3, A4, n4, c4, S, rfl, hj6.keep (fun b hb => put5_heap (by have := (hS6 b hb).1; omega) _ _ _ _ _) (fun _ => id), fun b hb => ⟨by have := (hS6 b hb).1; omega, ?_⟩, gb_put5 hg7 (Nat.le_refl _) _ _ _ _ _⟩
      show b < (put5 wc w.heap.size _ _ _ _ _).heap.size
      rw [put5_size]; exact (hS6 b hb).2
    · have heb : (ρ.e != 0) = true := by simpa using he
      have HO : Hid (outP (j, ρ) = (bare 0 0, ρ.bad, ρ.e)) := by unfold Hid outP; rw [if_neg he]
      clear he
      go_wp2_with fail
      go_region
      go_wp2_with fail
      have q0 : (wc.setCell ⟨w.heap.size, 0, none⟩ (.int .i64 0)).cell? ⟨w.heap.size, 0, none⟩ = some (.int .i64 0) := by unfold JB at hJ6; simp [World.cell?, World.setCell, Array.getElem?_modify, hJ6]
      have q1 : ((wc.setCell ⟨w.heap.size, 0, none⟩ (.int .i64 0)).setCell ⟨w.heap.size, 1, none⟩ (.int .i64 0)).cell? ⟨w.heap.size, 1, none⟩ = some (.int .i64 0) := by unfold JB at hJ6; simp [World.cell?, World.setCell, Array.getElem?_modify, hJ6]
      have q2 : (((wc.setCell ⟨w.heap.size, 0, none⟩ (.int .i64 0)).setCell ⟨w.heap.size, 1, none⟩ (.int .i64 0)).setCell ⟨w.heap.size, 2, none⟩ (.string ⟨#[]⟩)).cell? ⟨w.heap.size, 2, none⟩ = some (.string ⟨#[]⟩) := by unfold JB at hJ6; simp [World.cell?, World.setCell, Array.getElem?_modify, hJ6]
      have q3 : ((((wc.setCell ⟨w.heap.size, 0, none⟩ (.int .i64 0)).setCell ⟨w.heap.size, 1, none⟩ (.int .i64 0)).setCell ⟨w.heap.size, 2, none⟩ (.string ⟨#[]⟩)).setCell ⟨w.heap.size, 3, none⟩ (.slice none 0 0)).cell? ⟨w.heap.size, 3, none⟩ = some (.slice none 0 0) := by unfold JB at hJ6; simp [World.cell?, World.setCell, Array.getElem?_modify, hJ6]
      have q4 : (((((wc.setCell ⟨w.heap.size, 0, none⟩ (.int .i64 0)).setCell ⟨w.heap.size, 1, none⟩ (.int .i64 0)).setCell ⟨w.heap.size, 2, none⟩ (.string ⟨#[]⟩)).setCell ⟨w.heap.size, 3, none⟩ (.slice none 0 0)).setCell ⟨w.heap.size, 4, none⟩ (.slice none 0 0)).cell? ⟨w.heap.size, 4, none⟩ = some (.slice none 0 0) := by unfold JB at hJ6; simp [World.cell?, World.setCell, Array.getElem?_modify, hJ6]
      refine bodyPost_ret (v := .tuple #[.agg #[.int .i64 0, .int .i64 0, .string ⟨#[]⟩, .slice none 0 0, .slice none 0 0], .int .i64 ρ.bad, .int .i64 ρ.e]) (by simp [results, Tryd.results13, go_sem, q0, q1, q2, q3, q4]) rfl ?_
      rw [HO.out]
      exact ⟨none, 0, 0, none, 0, 0, fun _ => False, rfl, .bare _ _ _, fun _ h => h.elim, gb_drew (gb_put5 hg7 (Nat.le_refl _) _ _ _ _ _)⟩
end Go.Proofs.YtnnhkajjifmlfaaDoor
