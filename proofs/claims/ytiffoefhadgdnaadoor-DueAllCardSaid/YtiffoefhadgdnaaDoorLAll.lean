/- DueAll: the plain law. -/
import Derived.Test.YtiffoefhadgdnaaDoorJe
import Derived.Test.YtiffoefhadgdnaaDoorJo
import Derived.Test.YtiffoefhadgdnaaDoorMq
import Derived.Test.YtiffoefhadgdnaaDoorGDueAll
namespace Go.Proofs.YtiffoefhadgdnaaDoor
open Go Go.B Go.RowKit
set_option linter.unusedSimpArgs false
set_option linter.unusedVariables false
set_option linter.unusedSectionVars false
set_option maxRecDepth 20000

theorem bne_self (n : Int) : (n != n) = false := by simp

/-- a row of which nothing runs -/
def idleR (j : Job) (nx : Int) : Row := ⟨j, false, nx, 0, 0, 0, []⟩

theorem ofJ_may {j : Job} {t : Int} (h : ofJ j t = true) : mayT t = true := by
  obtain ⟨_, t0, t1, _⟩ := ofJ_parts h
  unfold mayT
  rw [yes_of t0, yes_of t1]; rfl

theorem idle_ok {j : Job} {t : Int} (h : ofJ j t = true) (hr : 0 ≤ j.re) : (idleR j t).ok = true := by
  obtain ⟨hg, t0, t1, _⟩ := ofJ_parts h
  have hl : (idleR j t).line = [t] := by
    unfold Row.line idleR
    simp only
    rw [if_neg (by omega), if_neg (by omega)]; rfl
  unfold Row.ok
  rw [hl]
  simp [idleR, riseB, ofJ_may h, h, hg, hr]

theorem busy_ok {j : Job} {t num : Int} (h : ofJ j t = true) (hr : 0 ≤ j.re) (hn : 0 < num) : (⟨j, false, nextT j t, num, t, 0, []⟩ : Row).ok = true := by
  obtain ⟨hg, t0, t1, _⟩ := ofJ_parts h
  have rest : riseB (⟨j, false, nextT j t, num, t, 0, []⟩ : Row).line = true ∧ (⟨j, false, nextT j t, num, t, 0, []⟩ : Row).line.all (fun t => mayT t && ofJ j t) = true := by
    unfold Row.line nextT
    simp only
    rw [if_pos hn]
    cases hf : firstJ j t with
    | none => simp [riseB, ofJ_may h, h]
    | some u =>
      have hu := firstJ_is hf
      obtain ⟨u0, u1, hlt, _⟩ := firstJ_some hf
      simp only
      rw [if_neg (by omega)]
      simp [riseB, ofJ_may h, h, ofJ_may hu, hu, hlt]
  unfold Row.ok
  rw [rest.1, rest.2]
  have : (num == 0) = false := by simp; omega
  simp [hg, hr, this]

theorem one_off {j : Job} {t : Int} (h : ofJ j t = true) : timesL j t 4 (t - 1) [] = [t] := by
  rw [timesL_cons (ofJ_iff.mp h) (Int.le_refl _)]
  have : timesL j t 3 t [] = [] := by
    unfold timesL
    cases hf : firstJ j t with
    | none => rfl
    | some u =>
      have := firstJ_gt hf
      simp only
      rw [if_pos (by omega)]
  rw [this]

theorem idle_step {j : Job} (hc : j.ca = 2) {t num : Int} (h : ofJ j t = true) (hr : 0 ≤ j.re) (hn : num ≠ 0) :
    stepL (idleR j t) t num = ((⟨j, false, nextT j t, num, t, 0, []⟩ : Row).tup, [(num, j.name, t, 0)], 0) := by
  obtain ⟨_, t0, _⟩ := ofJ_parts h
  have ho : occL (idleR j t) t = ([t], nextT j t) := by
    unfold occL
    rw [if_pos ⟨idle_ok h hr, ofJ_may h⟩, if_neg (by simp [idleR]; omega)]
    have : offL (idleR j t) t = [t] := by
      unfold offL
      rw [if_neg (by show ¬ j.ca = 0; omega), if_neg (by show ¬ j.ca = 1; omega)]
      exact one_off h
    rw [this]; rfl
  unfold stepL
  rw [if_pos ⟨idle_ok h hr, ofJ_may h, hn⟩]
  unfold stepG
  rw [ho]
  rfl

theorem busy_end {j : Job} {t num : Int} (h : ofJ j t = true) (hr : 0 ≤ j.re) (hn : 0 < num) :
    endL (⟨j, false, nextT j t, num, t, 0, []⟩ : Row) num true (num + 1) = ((idleR j (nextT j t)).tup, [], j.once && (nextT j t == -1), 0) := by
  unfold endL
  rw [busy_ok h hr hn, if_neg (by simp; omega), if_neg (by simp; omega), if_neg (by simp)]
  rfl

theorem gone_once {j : Job} {t : Int} (h : ofJ j t = true) : (j.once && (nextT j t == -1)) = j.once := by
  cases ho : j.once
  · rfl
  · obtain ⟨hg, _, _, h1, _⟩ := ofJ_parts h
    have e := h1 ho
    have : firstJ j t = none := by
      unfold firstJ
      rw [hg, ho]
      simp only [if_true]
      rw [if_neg (by omega)]
    unfold nextT
    rw [this]; rfl

theorem chain_get {j : Job} {hi : Int} : ∀ {l : List Int} {p : Int}, chain j hi p l → ∀ i, i < l.length → ofJ j (l.getD i 0) = true ∧ (i + 1 < l.length → nextT j (l.getD i 0) = l.getD (i + 1) 0)
  | [], _, _, i, h => absurd h (Nat.not_lt_zero _)
  | t :: l, p, ⟨h1, h2, h3⟩, i, h => by
    cases i with
    | zero =>
      refine ⟨firstJ_is h1, fun h => ?_⟩
      cases l with
      | nil => simp at h
      | cons u l =>
        obtain ⟨k1, _, _⟩ := h3
        show nextT j t = u
        unfold nextT
        rw [k1]
    | succ i =>
      have := chain_get h3 i (by simpa using h)
      exact ⟨this.1, fun q => this.2 (by simpa using q)⟩

theorem all_loop {j : Job} (hj : j.in) (hc : j.ca = 2) (ho : j.ov = 1) (hr : 0 ≤ j.re) {l : List Int} (hl : l.length ≤ 8) (hk : ∀ i, i < l.length → ofJ j (l.getD i 0) = true ∧ (i + 1 < l.length → nextT j (l.getD i 0) = l.getD (i + 1) 0)) : ∀ (d i : Nat) (nx : Int), i + d = l.length → (i < l.length → nx = l.getD i 0) →
    ∃ k, curfewlaw13_DueAll_l0 k (l, l.take i, j.name, j.once, j.c.mi, j.c.ho, j.c.da, j.c.mo, j.c.we, j.at_, j.re, j.name, j.once, j.c.mi, j.c.ho, j.c.da, j.c.mo, j.c.we, j.at_, 1, 2, j.re, false, nx, 0, 0, 0, [], (l.length : Int), (i : Int)) (.inr l) := by
  intro d
  induction d with
  | zero =>
    intro i nx hi _
    refine ⟨1, br_no (no_of (by omega)) ?_⟩
    rw [List.take_of_length_le (by omega)]
  | succ d ih =>
    intro i nx hi hnx
    have hlt : i < l.length := by omega
    have e := hnx hlt
    subst e
    obtain ⟨h1, h2⟩ := hk i hlt
    obtain ⟨k, hk'⟩ := ih (i + 1) (nextT j (l.getD i 0)) (by omega) (fun q => h2 q)
    have ew : IntKind.wrap .i64 ((i : Int) + 1) = ((i + 1 : Nat) : Int) := wi_succ (by omega)
    have w2 : IntKind.wrap .i64 (2 * (i : Int)) = 2 * (i : Int) := wi (by omega) (by omega)
    have w3 : IntKind.wrap .u64 (IntKind.wrap .i64 (2 * (i : Int) + 1)) = 2 * (i : Int) + 1 := by rw [wi (by omega) (by omega), wu (by omega) (by omega)]
    have w4 : IntKind.wrap .u64 (IntKind.wrap .i64 (2 * (i : Int) + 2)) = 2 * (i : Int) + 1 + 1 := by rw [wi (by omega) (by omega), wu (by omega) (by omega)]; omega
    have hin : ∀ nx num due, 0 ≤ num → (⟨j, false, nx, num, due, 0, []⟩ : Row).in := fun nx num due hn => ⟨hj, by simp, hn⟩
    have s := due_Step_fn (hin (l.getD i 0) 0 0 (by omega)) (l.getD i 0) (2 * (i : Int) + 1)
    have es := idle_step hc h1 hr (num := 2 * (i : Int) + 1) (by omega)
    unfold idleR at es
    rw [es] at s
    have n := due_End_fn (hin (nextT j (l.getD i 0)) (2 * (i : Int) + 1) (l.getD i 0) (by omega)) (2 * (i : Int) + 1) true (2 * (i : Int) + 1 + 1)
    rw [busy_end h1 hr (by omega), gone_once h1] at n
    simp only [hc, ho] at s
    have et : l.take (i + 1) = l.take i ++ [l.getD i 0] := by
      rw [List.take_add_one, List.getD_eq_getElem?_getD, List.getElem?_eq_getElem hlt]; rfl
    rw [et] at hk'
    refine ⟨k + 1, br_yes (yes_of (by omega)) ⟨ix_ok hlt, ⟨blt_ok hlt, ?_⟩⟩⟩
    rw [w2, w3, w4, ew]
    have hk2 : curfewlaw13_DueAll_l0 k (l, l.take i ++ [l.getD i 0], j.name, j.once, j.c.mi, j.c.ho, j.c.da, j.c.mo, j.c.we, j.at_, j.re, j.name, j.once, j.c.mi, j.c.ho, j.c.da, j.c.mo, j.c.we, j.at_, j.ov, j.ca, j.re, false, nextT j (l.getD i 0), 0, 0, 0, [], (l.length : Int), ((i + 1 : Nat) : Int)) (.inr l) := by rw [hc, ho]; exact hk'
    exact ⟨_, s, br_no rfl (br_no rfl ⟨by rfl, ⟨nl_ok (by simp; omega), _, n, br_no rfl (br_no rfl (br_no (by cases j.once <;> rfl) hk2))⟩⟩)⟩

theorem all_law {j : Job} (hj : j.in) (hc : j.ca = 2) (ho : j.ov = 1) (o8 o9 from_ many : Int) : curfewlaw13_DueAll_R j.name j.once j.c.mi j.c.ho j.c.da j.c.mo j.c.we j.at_ o8 o9 j.re from_ many true := by
  have F := job_First_fn hj from_
  have C := job_Check_fn hj
  rw [hc, ho] at F C
  refine ⟨_, wakes13, br_no rfl ⟨_, F, _, C, ?_⟩⟩
  cases hg : j.good
  · exact br_yes (by rw [ck_ne, hg]; rfl) rfl
  refine br_no (by rw [ck_ne, hg]; rfl) ?_
  by_cases hf0 : from_ < 0
  · exact br_yes (yes_of hf0) rfl
  refine br_no (no_of hf0) ?_
  cases hf : firstJ j from_ with
  | none => exact br_yes rfl rfl
  | some t =>
    have h1 := firstJ_is hf
    obtain ⟨_, _, ⟨r0, _⟩, _⟩ := ok0_parts (good_ok0 hg)
    have K := table_CheckRow_fn (r := idleR j t) ⟨hj, by simp [idleR], by simp [idleR]⟩
    rw [idle_ok h1 r0] at K
    simp only [idleR, hc, ho] at K
    obtain ⟨m, hm, m0, m1⟩ : ∃ m : Nat, IntKind.wrap .i64 ((IntKind.wrap .i64 (Int.tmod (IntKind.wrap .u64 many) 8)) + 1) = (m : Int) ∧ 1 ≤ m ∧ m ≤ 8 := by
      rw [wue, Int.tmod_eq_emod_of_nonneg (by omega), wi (x := many % 18446744073709551616 % 8) (by omega) (by omega), wi (by omega) (by omega)]
      exact ⟨(many % 18446744073709551616 % 8 + 1).toNat, by omega, by omega, by omega⟩
    have T := job_Times_fn hj hg from_ 253402300799 (most := m) (by omega)
    rw [hc, ho, ← hm] at T
    have tl := timesL_len (j := j) (hi := 253402300799) (d := m) (t := from_) (out := [])
    have ch := timesL_chain (j := j) (hi := 253402300799) (d := m) (p := from_)
    obtain ⟨_, t1, _⟩ := firstJ_some hf
    have e0 : ∃ l, timesL j 253402300799 m from_ [] = t :: l := by
      obtain ⟨m', rfl⟩ : ∃ m', m = m' + 1 := ⟨m - 1, by omega⟩
      exact ⟨_, timesL_cons hf t1⟩
    generalize timesL j 253402300799 m from_ [] = w at *
    have hlen : w.length ≤ 8 := by simp at tl; omega
    obtain ⟨k, hk⟩ := all_loop hj hc ho r0 hlen (chain_get ch) w.length 0 t (by omega) (fun q => by obtain ⟨l, rfl⟩ := e0; rfl)
    refine br_no rfl ⟨_, K, br_no rfl ⟨_, T, br_no rfl ⟨_, ⟨k, hk⟩, ?_⟩⟩⟩
    exact ⟨_, Equal_yes _ (by omega), rfl⟩

theorem law_DueAll (x : jobTy.den) (h : inT jobTy x) (a : Int) (w : (Lit.int .i64 a).wf = true) (b : Int) (w2 : (Lit.int .i64 b).wf = true) :
    curfewlaw13_DueAll_R x.1 x.2.1 x.2.2.1.1 x.2.2.1.2.1 x.2.2.1.2.2.1 x.2.2.1.2.2.2.1 x.2.2.1.2.2.2.2 x.2.2.2.1 x.2.2.2.2.1 x.2.2.2.2.2.1 x.2.2.2.2.2.2 a b true :=
  all_law (j := { jobOf x with ca := 2, ov := 1 }) (jobOf_in h) rfl rfl _ _ a b
end Go.Proofs.YtiffoefhadgdnaaDoor
