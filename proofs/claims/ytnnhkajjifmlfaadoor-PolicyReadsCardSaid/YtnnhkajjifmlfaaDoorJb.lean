/- (*reader).number: it computes numS. -/
import Derived.Test.YtnnhkajjifmlfaaDoorJa
import Derived.Deep.RegionHeld3
import Derived.Deep.DeepCutAuto
import Derived.Deep.CutBlock
import Derived.Defers
import Derived.Deep.LoopGhost
import Derived.Deep.AppendLies
import Derived.Deep.DrawnRows
import Derived.Deep.RegionLaw
import Derived.RegionTactic
import Derived.ChangeAlike
import Derived.BigRegion
/-! (*reader).number: it computes numS. -/

namespace Go.Proofs.YtnnhkajjifmlfaaDoor
open Go.RowKit Go.Maps

set_option maxRecDepth 100000 in
set_option maxHeartbeats 1600000 in
theorem number_any (R : Nat) (s : ByteArray) (σ : PS) (w : World) (h : RD w R s σ) (hp : σ.p ≤ s.size) (hs : s.size ≤ 2000000) (hG : Gv w) (hRg : 6 ≤ R) (he : σ.e = 0) :
    Calls Tryd.prog 84 #[.pointer (some ⟨R, 0, none⟩)] w fun e w' => e = .returned (.agg #[.int .i64 3, .int .i64 (numS s σ).1, .string ⟨#[]⟩, .slice none 0 0, .slice none 0 0]) ∧ RD w' R s (numS s σ).2 ∧ w.grownBy w' (some R) := by
  have hpt := takeS_le (c := 45) hp
  have hpg := takeS_p s σ 45
  have het : (takeS s σ 45).e = 0 := by unfold takeS; split <;> exact he
  have Heq : Hid (takeS s σ 45 = { σ with p := (takeS s σ 45).p }) := by unfold Hid takeS; split <;> rfl
  have hfd : (σ.p : Int) ≤ ((takeS s σ 45).p : Int) := by omega
  have Htake := Lib.hid (take_any R s σ 45 (w.alloc (.cells #[.int .i64 0, .int .i64 0, .string ⟨#[]⟩, .slice none 0 0, .slice none 0 0] 26)) (h.alloc _) hp hs)
  unfold numS
  simp only
  generalize (takeS s σ 45).p = d at *
  have hJ0 := JB.new w (.int .i64 0) (.int .i64 0) (.string ⟨#[]⟩) (.slice none 0 0) (.slice none 0 0)
  have c1 := fun o => (h.alloc o).c1
  have hRl := h.lt
  have hpd := dsk_bd hpt
  go_enter Tryd.func84, Tryd.ntmps84
  go_upto_block 0 with (first
    | (go_at_call 128; refine (Htake.out).mono ?_; rintro e w1 ⟨rfl, hR1, hg1⟩; rw [Heq.out] at hR1; have c11 := hR1.c1; have hsz1 := hg1.size)
    | (go_at_call 81; refine (next_ok R s { σ with p := d } _ he hpt (by exact hR1)).mono ?_; rintro e w2 ⟨rfl, n2, rfl⟩))
  go_cut [] (fun wx => RD wx R s { σ with p := dsk s d } ∧ w1.grownBy wx (some R))
  case first =>
    go_wp2_with fail
    go_loopg [5] (s.size - d) (fun n v wr => ∃ q, d ≤ q ∧ q ≤ s.size ∧ n = s.size - q ∧ v = .int .u8 (chr s q) ∧ Hid (dsk s q = dsk s d) ∧ RD wr R s { σ with p := q } ∧ w1.grownBy wr (some R))
    case atStart => exact ⟨d, Nat.le_refl _, hpt, rfl, rfl, rfl, hR1.drewN _, gb_drewN (gb_refl _ _) _⟩
    case round =>
      obtain ⟨q, hdq, hq, rfl, rfl, Hq, hR, hg⟩ := hrel
      have hc256 := chr_lt s q
      by_cases hd : isDig (chr s q) = true
      · have hlt := dig_chr hd
        have Hst := Lib.hid ((dsk_step hd).symm.trans Hq.out)
        have hd2 : 48 ≤ chr s q ∧ chr s q ≤ 57 := by simpa [isDig] using hd
        obtain ⟨hd3, hd4⟩ := hd2
        clear hd c1 c11
        have c1 := hR.c1
        have f1 := hR.f 1
        go_wp2_with (first
          | (go_at_call 81; refine (next_ok R s { σ with p := q + 1 } _ he hlt (by exact hR.set1 (q + 1))).mono ?_; rintro e w3 ⟨rfl, n3, rfl⟩))
        go_roundg (s.size - (q + 1))
        case measure => omega
        case rel => exact ⟨q + 1, by omega, hlt, rfl, rfl, Hst, (hR.set1 (q + 1)).drewN _, gb_drewN (gb_setR hg _ _) _⟩
      · have hd1 : isDig (chr s q) = false := by simpa using hd
        have Hst : Hid (dsk s d = q) := Hq.out.symm.trans (dsk_stop hd1)
        have hd2 : chr s q < 48 ∨ 57 < chr s q := by simp [isDig] at hd1; omega
        clear hd hd1
        clear c1 c11
        rcases hd2 with hd2 | hd2
        all_goals
          go_wp2_with fail
          go_meet
          exact ⟨by rw [Hst.out]; exact hR, hg⟩
  case rest =>
    obtain ⟨hR, hg⟩ := hcut
    generalize hqe : dsk s d = q at *
    have Hqe := Lib.hid hqe; clear hqe
    clear c1 c11 n2
    have c0 := hR.c0
    have c1 := hR.c1
    obtain ⟨hdq, hq⟩ := hpd
    have hdqi : (d : Int) ≤ (q : Int) := by omega
    have hd0 : (0 : Int) ≤ (d : Int) := by omega
    have hqi : (q : Int) ≤ (s.size : Int) := by omega
    have hfq : (σ.p : Int) ≤ (q : Int) := by omega
    have hGr : Gv wc := ((hG.alloc _).kept hg1 (by simpa using hRg)).kept hg (by simpa using hRg)
    go_wp2_with fail
    go_quiet (fail)
    go_wp2_with fail
    have hJ := (hJ0.kept hg1 (by simp; omega)).kept hg (by simp; omega)
    clear hJ0
    have hsub : (s.extract σ.p q).size ≤ 2000000 := by rw [sub_size hq]; omega
    have Hl : Hid (PIn (List.take (q - σ.p) (List.drop σ.p s.data.toList)) = PIn (subL s σ.p q)) := by unfold Hid subL; rw [Lib.extract_data]
    have hgA := gb_trans (gb_trans (gb_alloc (gb_refl w (some R)) jz) hg1) hg
    go_cut [6, 7, 8] (fun s6 s7 s8 wx => (∃ x, s6 = .string x ∧ Hid (x = s.extract d q)) ∧ s7 = .int .i64 (PIn (subL s σ.p q)) ∧ (if PIok (subL s σ.p q) then s8 = .nilIface else ∃ N, s8 = .iface 179 (.pointer (some ⟨N, 0, none⟩))) ∧ RD wx R s { σ with p := q } ∧ wc.grownBy wx none)
    case first =>
      by_cases hok : PIok (subL s σ.p q) = true
      · go_region_held3 (fun w' => w'.cell? ⟨R, 0, none⟩ = some (.string s) ∧ w'.cell? ⟨R, 1, none⟩ = some (.int .i64 q)) (first | go_keep | exact ⟨hR5.c0, hR5.c1⟩)
          ((go_at_call 130; refine (parseInt_ok (s.extract σ.p q) _ hsub (by exact (hGr.drewN _).drew) hok).mono ?_; rintro e w5 ⟨rfl, hg5⟩; have hR5 : RD w5 R s { σ with p := q } := RD.kept (by exact hR) hg5 (by simp)))
        go_wp2_with fail
        go_meet
        exact ⟨⟨_, rfl, rfl⟩, by rw [Hl.out], by rw [if_pos hok], hR5, gb_trans (gb_drew (gb_drewN (gb_refl wc none) _)) hg5⟩
      · have hno : PIok (subL s σ.p q) = false := by simpa using hok
        go_region_held3 (fun w' => w'.cell? ⟨R, 0, none⟩ = some (.string s) ∧ w'.cell? ⟨R, 1, none⟩ = some (.int .i64 q)) (first | go_keep | exact ⟨hR5.c0, hR5.c1⟩)
          ((go_at_call 130; refine (parseInt_bad (s.extract σ.p q) _ hsub (by exact (hGr.drewN _).drew) hno).mono ?_; rintro e w5 ⟨N, rfl, hg5⟩; have hR5 : RD w5 R s { σ with p := q } := RD.kept (by exact hR) hg5 (by simp)))
        go_wp2_with fail
        go_meet
        exact ⟨⟨_, rfl, rfl⟩, by rw [Hl.out], by rw [hno]; exact ⟨N, rfl⟩, hR5, gb_trans (gb_drew (gb_drewN (gb_refl wc none) _)) hg5⟩
    case rest =>
      obtain ⟨⟨x, rfl, Hx⟩, rfl, h8, hR5, hg5⟩ := hcut
      have hgB := gb_more hgA hg5 (by simp)
      clear he het
      clear c0 c1
      have c51 := hR5.c1
      have hJ5 := hJ.kept hg5 (by simp)
      by_cases hdz : d = q
      · subst hdz
        obtain rfl : x = ⟨#[]⟩ := Hx.out.trans sub_nil
        go_wp2_with (first
          | (go_at_call 43; refine (fail_any R s _ 4 d _ (by exact hR5)).mono ?_; rintro e w6 ⟨rfl, hRx, hg6⟩; have hJ6 := hJ5.kept hg6 (by simp; omega); obtain ⟨m0, m1, m2, m3, m4, mf⟩ := hJ6.all))
        have hJ7 := hJ6.put5 (.int .i64 3) (.int .i64 (PIn (subL s σ.p d))) (.string ⟨#[]⟩) (.slice none 0 0) (.slice none 0 0)
        obtain ⟨q0, q1, q2, q3, q4, qf⟩ := hJ7.all
        unfold put5 at q0 q1 q2 q3 q4
        refine bodyPost_ret (v := .agg #[.int .i64 3, .int .i64 (PIn (subL s σ.p d)), .string ⟨#[]⟩, .slice none 0 0, .slice none 0 0]) (by simp [results, Tryd.results84, go_sem, q0, q1, q2, q3, q4]) rfl ?_
        rw [Hqe.out]
        refine ⟨rfl, ?_, ?_⟩
        · unfold numE; rw [if_pos rfl]
          exact hRx.put5 (by omega) _ _ _ _ _
        · exact gb_put5 (gb_trans hgB hg6) (Nat.le_refl _) _ _ _ _ _
      · have hlt : d < q := by omega
        have Hsz : Hid (x.size = q - d) := by rw [Hx.out]; exact sub_size hq
        have hE : x.toList.isEmpty = false := by
          have := ba_len x
          cases h : x.toList with
          | nil => rw [h] at this; simp at this; rw [Hsz.out] at this; omega
          | cons => rfl
        have hH : ∀ h : 0 < x.size, (x[0]'h).toNat = chr s d := by rw [Hx.out]; exact sub_head hlt hq
        have HF : Hid ((x.toList = [48]) ↔ (q - d = 1 ∧ chr s d = 48)) := by rw [Hx.out]; exact sub_list hlt hq
        have h0x : 0 < x.size := by rw [Hsz.out]; omega
        by_cases hz : zeroBad s σ.p d q = true
        · have HnumE : Hid (numE s σ.p d q { σ with p := q } = failS { σ with p := q } 4 σ.p) := by
            unfold Hid numE; rw [if_neg (by omega), hz]; rfl
          have hz2 : chr s d = 48 ∧ (1 < q - d ∨ (q - d = 1 ∧ σ.p < d)) := by
            simp [zeroBad] at hz; omega
          clear hz
          obtain ⟨hc, hz3⟩ := hz2
          have hc' : (chr s d : Int) = 48 := by omega
          clear h8
          rcases hz3 with hz3 | ⟨hz3, hz4⟩
          · have hL : (1 : Int) < (x.size : Int) := by rw [Hsz.out]; omega
            clear HF
            go_wp2_with (first
              | (go_at_call 43; refine (fail_any R s _ 4 σ.p _ (by exact hR5)).mono ?_; rintro e w6 ⟨rfl, hRx, hg6⟩; have hJ6 := hJ5.kept hg6 (by simp; omega); obtain ⟨m0, m1, m2, m3, m4, mf⟩ := hJ6.all))
            have hJ7 := hJ6.put5 (.int .i64 3) (.int .i64 (PIn (subL s σ.p q))) (.string ⟨#[]⟩) (.slice none 0 0) (.slice none 0 0)
            obtain ⟨q0, q1, q2, q3, q4, qf⟩ := hJ7.all
            unfold put5 at q0 q1 q2 q3 q4
            refine bodyPost_ret (v := .agg #[.int .i64 3, .int .i64 (PIn (subL s σ.p q)), .string ⟨#[]⟩, .slice none 0 0, .slice none 0 0]) (by simp [results, Tryd.results84, go_sem, q0, q1, q2, q3, q4]) rfl ?_
            rw [Hqe.out]
            exact ⟨rfl, by rw [HnumE.out]; exact hRx.put5 (by omega) _ _ _ _ _, gb_put5 (gb_trans hgB hg6) (Nat.le_refl _) _ _ _ _ _⟩
          · have hL : ¬ (1 : Int) < (x.size : Int) := by rw [Hsz.out]; omega
            have hF : x.toList = [48] := HF.out.2 ⟨hz3, hc⟩
            have hz4' : (σ.p : Int) < (d : Int) := by omega
            go_wp2_with (first
              | (go_at_call 43; refine (fail_any R s _ 4 σ.p _ (by exact hR5)).mono ?_; rintro e w6 ⟨rfl, hRx, hg6⟩; have hJ6 := hJ5.kept hg6 (by simp; omega); obtain ⟨m0, m1, m2, m3, m4, mf⟩ := hJ6.all))
            have hJ7 := hJ6.put5 (.int .i64 3) (.int .i64 (PIn (subL s σ.p q))) (.string ⟨#[]⟩) (.slice none 0 0) (.slice none 0 0)
            obtain ⟨q0, q1, q2, q3, q4, qf⟩ := hJ7.all
            unfold put5 at q0 q1 q2 q3 q4
            refine bodyPost_ret (v := .agg #[.int .i64 3, .int .i64 (PIn (subL s σ.p q)), .string ⟨#[]⟩, .slice none 0 0, .slice none 0 0]) (by simp [results, Tryd.results84, go_sem, q0, q1, q2, q3, q4]) rfl ?_
            rw [Hqe.out]
            exact ⟨rfl, by rw [HnumE.out]; exact hRx.put5 (by omega) _ _ _ _ _, gb_put5 (gb_trans hgB hg6) (Nat.le_refl _) _ _ _ _ _⟩
        · have hz' : zeroBad s σ.p d q = false := by simpa using hz
          have HnumE : Hid (numE s σ.p d q { σ with p := q } = if !PIok (subL s σ.p q) then failS { σ with p := q } 4 σ.p else { σ with p := q }) := by
            unfold Hid numE; rw [if_neg (by omega), hz', Bool.false_or]
          have hz2 : chr s d ≠ 48 ∨ (chr s d = 48 ∧ q - d = 1 ∧ d ≤ σ.p) := by
            simp [zeroBad] at hz'; omega
          clear hz hz'
          have hways : (((chr s d : Int) ≠ 48 ∧ (1 : Int) < (x.size : Int)) ∧ ¬ x.toList = [48]) ∨ (¬ (1 : Int) < (x.size : Int) ∧ ¬ x.toList = [48]) ∨ (¬ (1 : Int) < (x.size : Int) ∧ x.toList = [48] ∧ ¬ (σ.p : Int) < (d : Int)) := by
            rw [HF.out, Hsz.out]; omega
          clear HF hz2
          by_cases hok : PIok (subL s σ.p q) = true
          · rw [if_pos hok] at h8
            subst h8
            have HN : Hid (numE s σ.p d q { σ with p := q } = { σ with p := q }) := by unfold Hid; rw [HnumE.out, hok]; rfl
            clear hok HnumE
            obtain ⟨m0, m1, m2, m3, m4, mf⟩ := hJ5.all
            rcases hways with ⟨⟨hw1, hw2⟩, hw3⟩ | ⟨hw1, hw2⟩ | ⟨hw1, hw2, hw3⟩
            all_goals
              go_wp2_with fail
              have hJ7 := hJ5.put5 (.int .i64 3) (.int .i64 (PIn (subL s σ.p q))) (.string ⟨#[]⟩) (.slice none 0 0) (.slice none 0 0)
              obtain ⟨q0, q1, q2, q3, q4, qf⟩ := hJ7.all
              unfold put5 at q0 q1 q2 q3 q4
              refine bodyPost_ret (v := .agg #[.int .i64 3, .int .i64 (PIn (subL s σ.p q)), .string ⟨#[]⟩, .slice none 0 0, .slice none 0 0]) (by simp [results, Tryd.results84, go_sem, q0, q1, q2, q3, q4]) rfl ?_
              rw [Hqe.out]
              exact ⟨rfl, by rw [HN.out]; exact hR5.put5 (by omega) _ _ _ _ _, gb_put5 hgB (Nat.le_refl _) _ _ _ _ _⟩
          · have hno : PIok (subL s σ.p q) = false := by simpa using hok
            rw [hno] at h8
            obtain ⟨N, rfl⟩ : ∃ N, u8 = .iface 179 (.pointer (some ⟨N, 0, none⟩)) := h8
            have HN : Hid (numE s σ.p d q { σ with p := q } = failS { σ with p := q } 4 σ.p) := by unfold Hid; rw [HnumE.out, hno]; rfl
            clear hok hno HnumE
            rcases hways with ⟨⟨hw1, hw2⟩, hw3⟩ | ⟨hw1, hw2⟩ | ⟨hw1, hw2, hw3⟩
            all_goals
              go_wp2_with (first
                | (go_at_call 43; refine (fail_any R s _ 4 σ.p _ (by exact hR5)).mono ?_; rintro e w6 ⟨rfl, hRx, hg6⟩; have hJ6 := hJ5.kept hg6 (by simp; omega); obtain ⟨m0, m1, m2, m3, m4, mf⟩ := hJ6.all))
              have hJ7 := hJ6.put5 (.int .i64 3) (.int .i64 (PIn (subL s σ.p q))) (.string ⟨#[]⟩) (.slice none 0 0) (.slice none 0 0)
              obtain ⟨q0, q1, q2, q3, q4, qf⟩ := hJ7.all
              unfold put5 at q0 q1 q2 q3 q4
              refine bodyPost_ret (v := .agg #[.int .i64 3, .int .i64 (PIn (subL s σ.p q)), .string ⟨#[]⟩, .slice none 0 0, .slice none 0 0]) (by simp [results, Tryd.results84, go_sem, q0, q1, q2, q3, q4]) rfl ?_
              rw [Hqe.out]
              exact ⟨rfl, by rw [HN.out]; exact hRx.put5 (by omega) _ _ _ _ _, gb_put5 (gb_trans hgB hg6) (Nat.le_refl _) _ _ _ _ _⟩
end Go.Proofs.YtnnhkajjifmlfaaDoor

/-! What (*reader).value, many and Parse of package json compute. -/

namespace Go.Proofs.YtnnhkajjifmlfaaDoor
open Go.RowKit

def bare (k n : Int) : J := .mk k n ⟨#[]⟩ [] []
def bNull : ByteArray := ⟨#[110, 117, 108, 108]⟩
def bFalse : ByteArray := ⟨#[102, 97, 108, 115, 101]⟩
def bTrue : ByteArray := ⟨#[116, 114, 117, 101]⟩
def valueW (s : ByteArray) (many : Int → Int → PS → J × PS) (σ0 : PS) : J × PS :=
  let σ := blanksS s σ0
  let c := nextS s σ
  if c = 110 then (bare 1 0, needS s (nats bNull) σ)
  else if c = 102 then (bare 2 0, needS s (nats bFalse) σ)
  else if c = 116 then (bare 2 1, needS s (nats bTrue) σ)
  else if c = 34 then (.mk 4 0 ⟨(textS s σ).1.toArray⟩ [] [], (textS s σ).2)
  else if c = 45 ∨ (48 ≤ c ∧ c ≤ 57) then (bare 3 (numS s σ).1, (numS s σ).2)
  else if c = 91 then many 5 93 σ
  else if c = 123 then many 6 125 σ
  else (bare 0 0, failS σ 4 σ.p)

/-- a map's name and colon -/
def nameS (s : ByteArray) (kind : Int) (names : List ByteArray) (σ : PS) : List ByteArray × PS :=
  if kind = 6 then (names ++ [⟨(textS s σ).1.toArray⟩], needS s (nats ⟨#[58]⟩) (blanksS s (textS s σ).2)) else (names, σ)
def manyF (s : ByteArray) (val : PS → J × PS) (kind en : Int) : Nat → List ByteArray → List J → PS → J × PS
  | 0, names, list, σ => (.mk kind 0 ⟨#[]⟩ names list, σ)
  | n + 1, names, list, σ =>
    if σ.e = 0 then
      let x := nameS s kind names (blanksS s σ)
      let y := val x.2
      let τ := blanksS s y.2
      if takeB s τ en then (.mk kind 0 ⟨#[]⟩ x.1 (list ++ [y.1]), takeS s τ en)
      else manyF s val kind en n x.1 (list ++ [y.1]) (needS s (nats ⟨#[44]⟩) τ)
    else (.mk kind 0 ⟨#[]⟩ names list, σ)
def outD (x : J × PS) : J × PS := (x.1, { x.2 with d := x.2.d - 1 })
def inD (σ : PS) : PS := { σ with p := σ.p + 1, d := σ.d + 1 }
def manyW (s : ByteArray) (val : PS → J × PS) (kind en : Int) (σ : PS) : J × PS :=
  let τ := blanksS s (inD σ)
  if takeB s τ en then outD (bare kind 0, takeS s τ en)
  else outD (manyF s val kind en (s.size + 2) [] [] τ)
def manyD (s : ByteArray) : Nat → Int → Int → PS → J × PS
  | 0, kind, _, σ => (bare kind 0, failS σ 3 σ.p)
  | k + 1, kind, en, σ => manyW s (valueW s (manyD s k)) kind en σ
def valueD (s : ByteArray) (k : Nat) : PS → J × PS := valueW s (manyD s k)

/-- a step that goes on, within the text, at one depth -/
structure Goes (s : ByteArray) (σ τ : PS) : Prop where
  ge : σ.p ≤ τ.p
  le : τ.p ≤ s.size
  d : τ.d = σ.d
  er : σ.e ≠ 0 → τ.e ≠ 0
section
variable {s : ByteArray} {σ τ ρ : PS}
theorem Goes.refl (h : σ.p ≤ s.size) : Goes s σ σ := ⟨Nat.le_refl _, h, rfl, id⟩
theorem Goes.trans (h : Goes s σ τ) (k : Goes s τ ρ) : Goes s σ ρ := ⟨Nat.le_trans h.ge k.ge, k.le, k.d.trans h.d, fun e => k.er (h.er e)⟩
theorem goes_fail (h : σ.p ≤ s.size) (x q : Int) (hx : x ≠ 0) : Goes s σ (failS σ x q) := by
  unfold failS; split
  · exact ⟨Nat.le_refl _, h, rfl, fun _ => hx⟩
  · exact Goes.refl h
theorem goes_blanks (h : σ.p ≤ s.size) : Goes s σ (blanksS s σ) := by
  unfold blanksS; split
  · have := skip_bd h; exact ⟨this.1, this.2, rfl, id⟩
  · exact Goes.refl h
theorem goes_take (h : σ.p ≤ s.size) (c : Int) : Goes s σ (takeS s σ c) := by
  refine ⟨takeS_p _ _ _, takeS_le h, ?_, ?_⟩ <;> unfold takeS <;> split <;> simp
theorem goes_need : ∀ (t : List Nat) {σ : PS}, σ.p ≤ s.size → Goes s σ (needS s t σ)
  | [], _, h => Goes.refl h
  | c :: r, σ, h => by
    rw [needS_cons]
    have h1 : Goes s σ (needStep s c σ) := by
      unfold needStep; split
      · exact goes_take h _
      · exact goes_fail h _ _ (by decide)
    exact h1.trans (goes_need r h1.le)
theorem goes_step (h : nextS s σ ≠ 0) : Goes s σ (stepP σ) := ⟨by simp [stepP], (next_in h).2, rfl, id⟩
theorem goes_escU (h : σ.p ≤ s.size) : Goes s σ (escU s σ).2 := by
  unfold escU; split
  · exact goes_fail h _ _ (by decide)
  · have h1 := hex_next (s := s) (σ := σ) (by omega)
    have g1 : Goes s σ (stepP σ) := ⟨by simp [stepP], h1.2, rfl, id⟩
    split
    · exact g1.trans (goes_fail g1.le _ _ (by decide))
    · have h2 := hex_next (s := s) (σ := stepP σ) (by omega)
      exact g1.trans ⟨by simp [stepP], h2.2, rfl, id⟩
theorem goes_esc (h : σ.p ≤ s.size) : Goes s σ (escS s σ).2 := by
  have hp := escS_p (s := s) h
  unfold escS; split
  · have := goes_need (s := s) (nats ⟨#[117, 48, 48]⟩) h
    exact this.trans (goes_escU this.le)
  · split
    · exact goes_step (by omega)
    · split
      · exact goes_fail h _ _ (by decide)
      · rename_i h3
        exact goes_step (fun h0 => by rw [h0] at h3; exact h3 (by decide))
theorem goes_textF : ∀ (n : Nat) (acc : List UInt8) {σ : PS}, σ.p ≤ s.size → Goes s σ (textF s n acc σ).2
  | 0, _, _, h => Goes.refl h
  | n + 1, acc, σ, h => by
    unfold textF; split
    · split
      · exact goes_take h _
      · split
        · have g := goes_fail (s := s) h 4 σ.p (by decide)
          exact g.trans (goes_textF n acc g.le)
        · rename_i hlow
          split
          · have g1 := goes_take (s := s) h 92
            have g2 := g1.trans (goes_esc g1.le)
            exact g2.trans (goes_textF n _ g2.le)
          · have g1 := goes_step (s := s) (σ := σ) (by omega)
            exact g1.trans (goes_textF n _ g1.le)
    · exact Goes.refl h
theorem goes_text (h : σ.p ≤ s.size) : Goes s σ (textS s σ).2 := by
  have g := goes_need (s := s) (nats ⟨#[34]⟩) h
  exact g.trans (goes_textF _ _ g.le)
theorem goes_num (h : σ.p ≤ s.size) : Goes s σ (numS s σ).2 := by
  have h1 := takeS_le (c := 45) h
  have h2 := takeS_p s σ 45
  have h3 := dsk_bd h1
  have g : Goes s σ { σ with p := dsk s (takeS s σ 45).p } := ⟨by simp only; omega, h3.2, rfl, id⟩
  unfold numS; simp only; unfold numE
  split
  · exact g.trans (goes_fail g.le _ _ (by decide))
  · split
    · exact g.trans (goes_fail g.le _ _ (by decide))
    · exact g
theorem goes_name (h : σ.p ≤ s.size) (kind : Int) (names : List ByteArray) : Goes s σ (nameS s kind names σ).2 := by
  unfold nameS; split
  · have g1 := goes_text (s := s) h
    have g2 := g1.trans (goes_blanks g1.le)
    exact g2.trans (goes_need _ g2.le)
  · exact Goes.refl h
/-- what a reader of values does: it goes on -/
def ValGoes (s : ByteArray) (val : PS → J × PS) : Prop := ∀ σ, σ.p ≤ s.size → Goes s σ (val σ).2
theorem goes_manyF {val : PS → J × PS} (hv : ValGoes s val) (kind en : Int) : ∀ (n : Nat) (names : List ByteArray) (list : List J) {σ : PS}, σ.p ≤ s.size → Goes s σ (manyF s val kind en n names list σ).2
  | 0, _, _, _, h => Goes.refl h
  | n + 1, names, list, σ, h => by
    unfold manyF; split
    · have g1 := goes_blanks (s := s) h
      have g2 := g1.trans (goes_name g1.le kind names)
      have g3 := g2.trans (hv _ g2.le)
      have g4 := g3.trans (goes_blanks g3.le)
      simp only
      split
      · exact g4.trans (goes_take g4.le _)
      · have g5 := g4.trans (goes_need (nats ⟨#[44]⟩) g4.le)
        exact g5.trans (goes_manyF hv kind en n _ _ g5.le)
    · exact Goes.refl h
theorem goes_manyW {val : PS → J × PS} (hv : ValGoes s val) (kind en : Int) (h : σ.p < s.size) : Goes s σ (manyW s val kind en σ).2 := by
  have g1 := goes_blanks (s := s) (σ := inD σ) h
  unfold manyW; simp only
  have key : ∀ {ρ : PS}, Goes s (inD σ) ρ → Goes s σ { ρ with d := ρ.d - 1 } := fun g => ⟨by have := g.ge; simp only [inD] at this; simp only; omega, g.le, by have := g.d; simp only [inD] at this; simp only; omega, g.er⟩
  split
  · exact key (g1.trans (goes_take g1.le _))
  · exact key (g1.trans (goes_manyF hv kind en _ _ _ g1.le))
theorem goes_valueW {many : Int → Int → PS → J × PS} (hm : ∀ kind en σ, σ.p < s.size → Goes s σ (many kind en σ).2) : ValGoes s (valueW s many) := by
  intro σ h
  have g1 := goes_blanks (s := s) h
  unfold valueW; simp only
  repeat' split
  · exact g1.trans (goes_need _ g1.le)
  · exact g1.trans (goes_need _ g1.le)
  · exact g1.trans (goes_need _ g1.le)
  · exact g1.trans (goes_text g1.le)
  · exact g1.trans (goes_num g1.le)
  · rename_i h1; exact g1.trans (hm _ _ _ (next_in (s := s) (by omega)).2)
  · rename_i h1; exact g1.trans (hm _ _ _ (next_in (s := s) (by omega)).2)
  · exact g1.trans (goes_fail g1.le _ _ (by decide))
theorem goes_manyD : ∀ (k : Nat) (kind en : Int) (σ : PS), σ.p < s.size → Goes s σ (manyD s k kind en σ).2
  | 0, _, _, σ, h => goes_fail (Nat.le_of_lt h) _ _ (by decide)
  | k + 1, kind, en, σ, h => goes_manyW (goes_valueW (goes_manyD k)) kind en h
theorem goes_valueD (k : Nat) : ValGoes s (valueD s k) := goes_valueW (goes_manyD k)
end
end Go.Proofs.YtnnhkajjifmlfaaDoor

/-! (*reader).value of package json: one walk for each way through its switch. -/

namespace Go.Proofs.YtnnhkajjifmlfaaDoor
open Go.RowKit Go.Maps

def J.k : J → Int | .mk k _ _ _ _ => k
def J.n : J → Int | .mk _ n _ _ _ => n
def J.t : J → ByteArray | .mk _ _ t _ _ => t
/-- what a reader of values leaves: the value in new memory, the reader's block alone turned -/
def VP (s : ByteArray) (R : Nat) (w : World) (x : J × PS) (e : Ending) (w' : World) : Prop :=
  ∃ (A1 : Option Addr) (n1 c1 : Nat) (A2 : Option Addr) (n2 c2 : Nat) (S : Nat → Prop),
    e = .returned (.agg #[.int .i64 x.1.k, .int .i64 x.1.n, .string x.1.t, .slice A1 n1 c1, .slice A2 n2 c2]) ∧
    JAt w' S x.1 (.agg #[.int .i64 x.1.k, .int .i64 x.1.n, .string x.1.t, .slice A1 n1 c1, .slice A2 n2 c2]) ∧
    (∀ b, S b → w.heap.size ≤ b ∧ b < w'.heap.size) ∧ RD w' R s x.2 ∧ w.grownBy w' (some R)
theorem VP.bare {s : ByteArray} {R : Nat} {w w' : World} {k n : Int} {t : ByteArray} {σ : PS} (h1 : RD w' R s σ) (h2 : w.grownBy w' (some R)) :
    VP s R w (.mk k n t [] [], σ) (.returned (.agg #[.int .i64 k, .int .i64 n, .string t, .slice none 0 0, .slice none 0 0])) w' :=
  ⟨none, 0, 0, none, 0, 0, fun _ => False, rfl, .bare k n t, fun _ h => h.elim, h1, h2⟩
end Go.Proofs.YtnnhkajjifmlfaaDoor

/-! (*reader).value of package json, whole, given many. -/

namespace Go.Proofs.YtnnhkajjifmlfaaDoor
open Go.RowKit Go.Maps

theorem put5_heap {w : World} {B b : Nat} (h : b ≠ B) (a0 a1 a2 a3 a4 : Value) : (put5 w B a0 a1 a2 a3 a4).heap[b]? = w.heap[b]? := by
  unfold put5
  rw [Below.heap_setCell _ _ _ _ h, Below.heap_setCell _ _ _ _ h, Below.heap_setCell _ _ _ _ h, Below.heap_setCell _ _ _ _ h, Below.heap_setCell _ _ _ _ h]
theorem put5_size (w : World) (B : Nat) (a0 a1 a2 a3 a4 : Value) : (put5 w B a0 a1 a2 a3 a4).heap.size = w.heap.size := by
  simp [put5, World.setCell]

end Go.Proofs.YtnnhkajjifmlfaaDoor

/-! What holds at each round's head of (*reader).many of package json, and what each step does to it. -/

namespace Go.Proofs.YtnnhkajjifmlfaaDoor
open Go.RowKit Go.Maps

structure MI (w wr : World) (s : ByteArray) (R : Nat) (τ : PS) (kind : Int) (names : List ByteArray) (list : List J) (nv lv : Value) : Prop where
  rl : R < w.heap.size
  rd : RD wr R s τ
  jb : JB wr (w.heap.size + 2) (.int .i64 kind) (.int .i64 0) (.string ⟨#[]⟩) nv lv
  bx : wr.heap[w.heap.size]? = some (.cells #[.pointer (some ⟨R, 0, none⟩)] 66 (0, 0))
  br : JB wr (w.heap.size + 1) (.int .i64 0) (.int .i64 0) (.string ⟨#[]⟩) (.slice none 0 0) (.slice none 0 0)
  hn : wr.ownsRow (w.heap.size + 3) 9 1 nv names.length (names.map Value.string)
  hl : ∃ xs S, wr.ownsRow (w.heap.size + 3) 26 5 lv list.length xs ∧ Flat wr S list xs ∧ ∀ b, S b → w.heap.size + 3 ≤ b ∧ b < wr.heap.size ∧ nv.ownBlock ≠ some b ∧ lv.ownBlock ≠ some b
  gb : w.grownBy wr (some R)

section
variable {w wr : World} {s : ByteArray} {R : Nat} {τ : PS} {kind : Int} {names : List ByteArray} {list : List J} {nv lv : Value}
theorem blk_kept {g : Nat} {o : Obj} {w' : World} {row : Option Nat} (h : wr.heap[g]? = some o) (hg : wr.grownBy w' row) (hne : some g ≠ row) : w'.heap[g]? = some o :=
  (hg.block g (Array.getElem?_eq_some_iff.1 h).1 hne).trans h
theorem MI.cells (h : MI w wr s R τ kind names list nv lv) : wr.cell? ⟨w.heap.size, 0, none⟩ = some (.pointer (some ⟨R, 0, none⟩)) := by
  rw [cell_of_row wr _ 0 _ _ _ h.bx]; rfl
/-- a call that turns the reader's block alone -/
theorem MI.same (h : MI w wr s R τ kind names list nv lv) {w' : World} {τ' : PS} (hR : RD w' R s τ') (hg : wr.grownBy w' (some R)) : MI w w' s R τ' kind names list nv lv := by
  have hl := h.rl
  obtain ⟨xs, S, h1, h2, h3⟩ := h.hl
  refine ⟨hl, hR, h.jb.kept hg (by simp; omega), blk_kept h.bx hg (by simp; omega), h.br.kept hg (by simp; omega), own_keptR h.hn hg (by omega), ⟨xs, S, own_keptR h1 hg (by omega), h2.keep (fun b hb => hg.block b (h3 b hb).2.1 (by have := (h3 b hb).1; simp; omega)) (fun _ => id), fun b hb => ⟨(h3 b hb).1, Nat.lt_of_lt_of_le (h3 b hb).2.1 hg.size, (h3 b hb).2.2⟩⟩, gb_trans h.gb hg⟩
theorem MI.drewN (h : MI w wr s R τ kind names list nv lv) (n : Nat) : MI w (wr.drewN n) s R τ kind names list nv lv := h.same (h.rd.drewN n) (gb_drewN (gb_refl _ _) n)
theorem MI.drew (h : MI w wr s R τ kind names list nv lv) : MI w wr.drew s R τ kind names list nv lv := h.same h.rd.drew (gb_drew (gb_refl _ _))
theorem own_ne {w : World} {b1 b2 e1 e2 z1 z2 n1 n2 : Nat} {v1 v2 : Value} {x1 x2 : List Value} (h1 : w.ownsRow b1 e1 z1 v1 n1 x1) (h2 : w.ownsRow b2 e2 z2 v2 n2 x2) (he : e1 ≠ e2) : v1.ownBlock = none ∨ v1.ownBlock ≠ v2.ownBlock := by
  rcases h1.2 with ⟨rfl, _⟩ | ⟨g, cap, cur, rfl, _, hh, _⟩
  · exact .inl rfl
  · refine .inr fun e => ?_
    rcases h2.2 with ⟨rfl, _⟩ | ⟨g', cap', cur', rfl, _, hh', _⟩
    · simp [Value.ownBlock] at e
    · simp only [Value.ownBlock, Option.some.injEq] at e
      subst e
      rw [hh] at hh'
      injection hh' with hh'
      injection hh' with _ ht
      exact he ht
/-- v.Names = append(v.Names, t): behind the store -/
theorem MI.name (h : MI w wr s R τ kind names list nv lv) {t : ByteArray} {o : Obj} {w2 : World} {g cap : Nat}
    (hown : w2.ownsRow (w.heap.size + 3) 9 1 (.slice (some ⟨g, 0, none⟩) (names.length + 1) cap) (names.length + 1) (names.map Value.string ++ [.string t])) (hg : (wr.alloc o).grownBy w2 nv.ownBlock) (hat : nv.ownBlock = some g ∨ g = wr.heap.size + 1) :
    MI w (w2.setCell ⟨w.heap.size + 2, 3, none⟩ (.slice (some ⟨g, 0, none⟩) (names.length + 1) cap)) s R τ kind (names ++ [t]) list (.slice (some ⟨g, 0, none⟩) (names.length + 1) cap) lv := by
  have hrl := h.rl
  obtain ⟨xs, S, h1, h2, h3⟩ := h.hl
  have hnlt := h.hn.lt
  have hllt := h1.lt
  have hne := own_ne h1 h.hn (by decide)
  have hblk : ∀ b, b < wr.heap.size → nv.ownBlock ≠ some b → w2.heap[b]? = wr.heap[b]? := fun b hb hne => (hg.block b (by simp; omega) (Ne.symm hne)).trans (Below.heap_alloc wr o b hb)
  have hno : ∀ b, b ≤ w.heap.size + 2 → nv.ownBlock ≠ some b := fun b hb e => by have := (hnlt b e).1; omega
  have hsz : wr.heap.size + 1 ≤ w2.heap.size := by have := hg.size; simpa using this
  have hgg : w.heap.size + 3 ≤ g := by
    rcases hat with e | e
    · exact (hnlt g e).1
    · have := h.jb.lt; omega
  have hglt : g ≠ w.heap.size + 2 := by omega
  refine ⟨hrl, ?_, ?_, ?_, ?_, ?_, ⟨xs, S, ?_, ?_, ?_⟩, ?_⟩
  · exact RD.far ((hblk R h.rd.lt (hno R (by omega))).trans h.rd) (q := ⟨w.heap.size + 2, 3, none⟩) (by simp; omega) _
  · have hj : JB w2 (w.heap.size + 2) (.int .i64 kind) (.int .i64 0) (.string ⟨#[]⟩) nv lv := (hblk _ h.jb.lt (hno _ (by omega))).trans h.jb
    unfold JB at hj ⊢
    simp [World.setCell, Array.getElem?_modify, hj]
  · rw [Below.heap_setCell _ _ _ _ (by simp)]
    exact (hblk _ (by have := h.jb.lt; omega) (hno _ (by omega))).trans h.bx
  · exact JB.far ((hblk _ h.br.lt (hno _ (by omega))).trans h.br) (q := ⟨w.heap.size + 2, 3, none⟩) (by simp) _
  · rw [List.length_append, List.map_append]
    exact ownsRow_setCell_below hown (by simp) _
  · refine ownsRow_setCell_below (h1.alloc o |>.kept hg ?_) (by simp) _
    rcases hne with e | e
    · exact .inl e
    · exact .inr e
  · refine h2.keep (fun b hb => ?_) (fun _ => id)
    rw [Below.heap_setCell _ _ _ _ (by have := (h3 b hb).1; simp; omega)]
    exact hblk b (h3 b hb).2.1 (h3 b hb).2.2.1
  · intro b hb
    obtain ⟨q1, q2, q3, q4⟩ := h3 b hb
    refine ⟨q1, by simp [World.setCell]; omega, ?_, q4⟩
    simp only [Value.ownBlock, ne_eq, Option.some.injEq]
    rintro rfl
    rcases hat with e | e
    · exact q3 e
    · omega
  · exact gb_set (g := R) (gb_more (gb_alloc h.gb o) hg (fun k hk => .inr (by have := (hnlt k hk).1; omega))) (.inr (by simp)) _
theorem MI.alloc (h : MI w wr s R τ kind names list nv lv) (o : Obj) : MI w (wr.alloc o) s R τ kind names list nv lv := h.same (h.rd.alloc o) (gb_alloc (gb_refl _ _) o)
theorem MI.far (h : MI w wr s R τ kind names list nv lv) {o : Obj} {w2 : World} {row : Option Nat} (hg : (wr.alloc o).grownBy w2 row) (hr : ∀ k, row = some k → w.heap.size + 3 ≤ k) :
    w2.cell? ⟨w.heap.size, 0, none⟩ = some (.pointer (some ⟨R, 0, none⟩)) ∧ JB w2 (w.heap.size + 2) (.int .i64 kind) (.int .i64 0) (.string ⟨#[]⟩) nv lv := by
  have ha := h.alloc o
  have hno : ∀ b, b ≤ w.heap.size + 2 → some b ≠ row := fun b hb e => by have := hr b e.symm; omega
  refine ⟨?_, ha.jb.kept hg (hno _ (by omega))⟩
  rw [cell_of_row w2 _ 0 _ _ _ (blk_kept ha.bx hg (hno _ (by omega)))]; rfl
/-- what has been gathered, as a value -/
theorem MI.val (h : MI w wr s R τ kind names list nv lv) : ∃ S : Nat → Prop, JAt wr S (.mk kind 0 ⟨#[]⟩ names list) (.agg #[.int .i64 kind, .int .i64 0, .string ⟨#[]⟩, nv, lv]) ∧ ∀ b, S b → w.heap.size + 3 ≤ b ∧ b < wr.heap.size := by
  obtain ⟨xs, S, h1, h2, h3⟩ := h.hl
  refine ⟨fun b => S b ∨ nv.ownBlock = some b ∨ lv.ownBlock = some b, JAt.of_own h.hn h1 h2 (fun _ => .inl) (fun g hg => .inr (.inl hg)) (fun g hg => .inr (.inr hg)), ?_⟩
  rintro b (hb | hb | hb)
  · exact ⟨(h3 b hb).1, (h3 b hb).2.1⟩
  · exact h.hn.lt b hb
  · exact h1.lt b hb
end
end Go.Proofs.YtnnhkajjifmlfaaDoor

/-! (*reader).many of package json: the way that is nested too deep; the deferred closure. -/

namespace Go.Proofs.YtnnhkajjifmlfaaDoor
open Go.RowKit Go.Maps

end Go.Proofs.YtnnhkajjifmlfaaDoor

/-! (*reader).many of package json: a list, given value. -/

namespace Go.Proofs.YtnnhkajjifmlfaaDoor
open Go.RowKit Go.Maps
attribute [local go_sem ↓] Go.wp_at_zero Go.wp_at_succ
end Go.Proofs.YtnnhkajjifmlfaaDoor

/-! (*reader).many of package json: a map, given value. -/

namespace Go.Proofs.YtnnhkajjifmlfaaDoor
open Go.RowKit Go.Maps
attribute [local go_sem ↓] Go.wp_at_zero Go.wp_at_succ

end Go.Proofs.YtnnhkajjifmlfaaDoor

/-! json.Parse: it computes parseS. -/

namespace Go.Proofs.YtnnhkajjifmlfaaDoor
open Go.RowKit Go.Maps

def endS (s : ByteArray) (σ : PS) : PS := if σ.p < s.size then failS σ 4 σ.p else σ
/-- the reader behind the whole text -/
def topS (s : ByteArray) : J × PS := ((valueD s 64 ⟨0, 0, 0, 0⟩).1, endS s (blanksS s (valueD s 64 ⟨0, 0, 0, 0⟩).2))
def outP (x : J × PS) : J × Int × Int := if x.2.e = 0 then (x.1, 0, 0) else (bare 0 0, x.2.bad, x.2.e)
/-- what Parse hands back: the value, the place, the error -/
def parseS (s : ByteArray) : J × Int × Int :=
  if 1048576 < s.size then (bare 0 0, -1, 3)
  else outP (topS s)
/-- a value in new memory -/
def RP (w : World) (x : J × Int × Int) (e : Ending) (w' : World) : Prop :=
  ∃ (A1 : Option Addr) (n1 c1 : Nat) (A2 : Option Addr) (n2 c2 : Nat) (S : Nat → Prop),
    e = .returned (.tuple #[.agg #[.int .i64 x.1.k, .int .i64 x.1.n, .string x.1.t, .slice A1 n1 c1, .slice A2 n2 c2], .int .i64 x.2.1, .int .i64 x.2.2]) ∧
    JAt w' S x.1 (.agg #[.int .i64 x.1.k, .int .i64 x.1.n, .string x.1.t, .slice A1 n1 c1, .slice A2 n2 c2]) ∧
    (∀ b, S b → w.heap.size ≤ b ∧ b < w'.heap.size) ∧ w.grownBy w' none

theorem RD.new {w : World} {n : Nat} (s : ByteArray) (hn : w.heap.size = n) : RD (w.alloc (.cells #[.string s, .int .i64 0, .int .i64 0, .int .i64 0, .int .i64 0] 68)) n s ⟨0, 0, 0, 0⟩ := by
  subst hn; exact heap_alloc_new w _
set_option maxRecDepth 100000 in
set_option maxHeartbeats 1600000 in
theorem parse_long (s : ByteArray) (w : World) (hs : 1048576 < s.size) (hs2 : s.size ≤ 9223372036854775807) : Calls Tryd.prog 13 #[.string s] w (RP w (parseS s)) := by
  have HP : parseS s = (bare 0 0, -1, 3) := by unfold parseS; rw [if_pos hs]
  rw [HP]; clear HP
  have hsI : (1048576 : Int) < (s.size : Int) := by omega
  have hJ0 := JB.new w (.int .i64 0) (.int .i64 0) (.string ⟨#[]⟩) (.slice none 0 0) (.slice none 0 0)
  go_enter Tryd.func13, Tryd.ntmps13
  go_wp2_with fail
  refine bodyPost_ret (v := .tuple #[.agg #[.int .i64 0, .int .i64 0, .string ⟨#[]⟩, .slice none 0 0, .slice none 0 0], .int .i64 (-1), .int .i64 3]) (by simp [results, Tryd.results13, go_sem]) rfl ?_
  exact ⟨none, 0, 0, none, 0, 0, fun _ => False, rfl, .bare _ _ _, fun _ h => h.elim, gb_alloc (gb_refl w _) _⟩

end Go.Proofs.YtnnhkajjifmlfaaDoor
