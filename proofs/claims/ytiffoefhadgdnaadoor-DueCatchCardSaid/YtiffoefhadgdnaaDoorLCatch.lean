/- DueCatch: the plain law. -/
import Derived.Test.YtiffoefhadgdnaaDoorJe
import Derived.Test.YtiffoefhadgdnaaDoorJo
import Derived.Test.YtiffoefhadgdnaaDoorGDueCatch
namespace Go.Proofs.YtiffoefhadgdnaaDoor
open Go Go.B Go.RowKit
set_option linter.unusedSimpArgs false
set_option linter.unusedVariables false
set_option linter.unusedSectionVars false
set_option maxRecDepth 20000

theorem bne_self (n : Int) : (n != n) = false := by simp

theorem own_fn {r : Row} : curfewlaw13_own_R r.j.name r.j.once r.j.c.mi r.j.c.ho r.j.c.da r.j.c.mo r.j.c.we r.j.at_ r.j.ov r.j.ca r.j.re r.pa r.nx r.num r.due r.try_ r.q ({ r with q := r.q.take 5 } : Row).tup := by
  have e : (if 5 < ((r.q.length : Nat) : Int) then (5 : Int) else ((r.q.length : Nat) : Int)) = ((min 5 r.q.length : Nat) : Int) := by split <;> omega
  unfold curfewlaw13_own_R
  rw [e]
  refine ⟨?_, r.q.take 5, ?_, rfl⟩
  · simp only [Bool.and_eq_true, decide_eq_true_eq, Nat.ble_eq, Int.toNat_natCast]
    omega
  · simp only [Int.toNat_natCast, Nat.sub_zero, List.drop_zero]
    have : r.q.take (min 5 r.q.length) = r.q.take 5 := by
      rcases Nat.le_total 5 r.q.length with k | k
      · rw [Nat.min_eq_left k]
      · rw [Nat.min_eq_right k, List.take_length, List.take_of_length_le k]
    rw [this]
    exact Clone_fn (by simp; omega)

/-- what is told of an offer's times -/
structure Told (r : Row) (now : Int) (l : List Int) : Prop where
  all : ∀ t ∈ l, ofJ r.j t = true ∧ r.nx ≤ t ∧ t ≤ now
  rise : l.Pairwise (· < ·)

theorem catch_loop {r : Row} (hr : r.in) {now last then_ : Int} (hnx : 0 ≤ r.nx) {l : List Int} (hl : l.length ≤ 4) (ht : Told r now l) : ∀ (d i : Nat), i + d = l.length →
    ∃ k, curfewlaw13_DueCatch_l0 k (r.q, r.j.name, r.j.once, r.j.c.mi, r.j.c.ho, r.j.c.da, r.j.c.mo, r.j.c.we, r.j.at_, r.j.ov, r.j.ca, r.j.re, r.pa, r.nx, r.num, r.due, r.try_, now, l, then_, last, (l.length : Int), (i : Int)) (.inr ()) := by
  intro d
  induction d with
  | zero => exact fun i hi => ⟨1, br_no (no_of (by omega)) rfl⟩
  | succ d ih =>
    intro i hi
    obtain ⟨k, hk⟩ := ih (i + 1) (by omega)
    have hlt : i < l.length := by omega
    obtain ⟨h1, h2, h3⟩ := ht.all _ (getD_mem hlt)
    obtain ⟨_, t0, t1, _⟩ := ofJ_parts h1
    have hf := job_First_fn hr.1 (l.getD i 0 - 1)
    rw [ofJ_iff.mp h1] at hf
    rw [← wi (x := l.getD i 0 - 1) (by omega) (by omega)] at hf
    have ew : IntKind.wrap .i64 ((i : Int) + 1) = ((i + 1 : Nat) : Int) := wi_succ (by omega)
    refine ⟨k + 1, br_yes (yes_of (by omega)) ⟨ix_ok hlt, _, hf, br_no rfl (br_no (bne_self _) (br_no (no_of (by show ¬ (l.getD i 0 < r.nx); omega)) (br_no (no_of (by show ¬ (l.getD i 0 > now); omega)) ?_)))⟩⟩
    rw [ew]
    by_cases h0 : (i : Int) > 0
    · refine br_yes (yes_of h0) ?_
      have e2 : IntKind.wrap .i64 ((i : Int) - 1) = ((i - 1 : Nat) : Int) := by rw [wi (by omega) (by omega)]; omega
      rw [e2]
      refine ⟨ix_ok (by omega), br_no (no_of ?_) hk⟩
      have := List.pairwise_iff_getElem.mp ht.rise (i - 1) i (by omega) hlt (by omega)
      show ¬ (l.getD (i - 1) 0 ≥ l.getD i 0)
      rw [List.getD_eq_getElem?_getD, List.getD_eq_getElem?_getD, List.getElem?_eq_getElem (by omega), List.getElem?_eq_getElem hlt]
      simp only [Option.getD_some]; omega
    · exact br_no (no_of h0) hk

theorem catch_rest {r : Row} {now last : Int} {l : List Int} (n0 : 0 ≤ now) (n1 : now ≤ 253402300799) (a0 : 0 ≤ last) (a1 : last ≤ now) (hc : 0 ≤ r.j.ca ∧ r.j.ca ≤ 2)
    (h2 : r.j.ca = 2 → 1 ≤ l.length ∧ l.length ≤ 4 ∧ l.getD 0 0 = r.nx ∧ (l.length ≠ 4 → l.getD (l.length - 1) 0 = last))
    (h1 : r.j.ca = 1 → l = [last]) (h0 : r.j.ca = 0 → l = if now - last > 59 then [] else [last]) :
    br (r.j.ca == 2) (br (decide (((l.length : Nat) : Int) ≥ 1)) (br (decide (((l.length : Nat) : Int) ≤ 4)) (req (decide (0 < ((l.length : Nat) : Int))) (br (l.getD 0 0 == r.nx) (br (((l.length : Nat) : Int) == 4) (true = true) (req ((decide (0 ≤ (IntKind.wrap .i64 (((l.length : Nat) : Int) - 1)))) && (decide ((IntKind.wrap .i64 (((l.length : Nat) : Int) - 1)) < ((l.length : Nat) : Int)))) ((l.getD (Int.toNat (IntKind.wrap .i64 (((l.length : Nat) : Int) - 1))) 0 == last) = true))) (false = true))) (false = true)) (false = true))
      (br (r.j.ca == 1) (br (((l.length : Nat) : Int) == 1) (req (decide (0 < ((l.length : Nat) : Int))) ((l.getD 0 0 == last) = true)) (false = true))
        (br (((l.length : Nat) : Int) == 0) (br (decide ((IntKind.wrap .i64 (now - last)) > 59)) (true = true) (br (((l.length : Nat) : Int) == 1) (req (decide (0 < ((l.length : Nat) : Int))) (br (l.getD 0 0 == last) ((decide ((IntKind.wrap .i64 (now - last)) ≤ 59)) = true) (false = true))) (false = true)))
          (br (((l.length : Nat) : Int) == 1) (req (decide (0 < ((l.length : Nat) : Int))) (br (l.getD 0 0 == last) ((decide ((IntKind.wrap .i64 (now - last)) ≤ 59)) = true) (false = true))) (false = true)))) := by
  have ew : IntKind.wrap .i64 (now - last) = now - last := wi (by omega) (by omega)
  by_cases c2 : r.j.ca = 2
  · obtain ⟨k1, k2, k3, k4⟩ := h2 c2
    refine br_yes (by simpa using c2) (br_yes (yes_of (by omega)) (br_yes (yes_of (by omega)) ⟨yes_of (by omega), br_yes (by simpa using k3) ?_⟩))
    by_cases e4 : l.length = 4
    · exact br_yes (by rw [e4]; rfl) rfl
    · refine br_no (by simp; omega) ?_
      have e : IntKind.wrap .i64 (((l.length : Nat) : Int) - 1) = ((l.length - 1 : Nat) : Int) := by rw [wi (by omega) (by omega)]; omega
      rw [e]
      refine ⟨ix_ok (by omega), ?_⟩
      have := k4 e4
      show (l.getD (l.length - 1) 0 == last) = true
      simpa using this
  refine br_no (by simpa using c2) ?_
  by_cases c1 : r.j.ca = 1
  · rw [h1 c1]
    exact br_yes (by simpa using c1) (br_yes rfl ⟨rfl, by simp⟩)
  refine br_no (by simpa using c1) ?_
  rw [h0 (by omega), ew]
  by_cases hd : now - last > 59
  · rw [if_pos hd]
    exact br_yes rfl (br_yes (yes_of hd) rfl)
  · rw [if_neg hd]
    exact br_no rfl (br_yes rfl ⟨rfl, br_yes (by simp) (yes_of (by omega))⟩)

theorem catch_law {r0 : Row} (h0 : r0.j.in) (hn : 0 ≤ r0.num) (now : Int) : curfewlaw13_DueCatch_R r0.j.name r0.j.once r0.j.c.mi r0.j.c.ho r0.j.c.da r0.j.c.mo r0.j.c.we r0.j.at_ r0.j.ov r0.j.ca r0.j.re r0.pa r0.nx r0.num r0.due r0.try_ r0.q now true := by
  refine ⟨_, wakes13, br_no rfl ⟨_, own_fn, ?_⟩⟩
  obtain ⟨r, hr⟩ : ∃ r, r = ({ r0 with q := r0.q.take 5 } : Row) := ⟨_, rfl⟩
  rw [← hr]
  have hin : r.in := by rw [hr]; exact ⟨h0, by simp; omega, hn⟩
  clear hr
  refine ⟨_, due_Occur_fn hin now, _, table_CheckRow_fn hin, ?_⟩
  unfold occL
  cases hok : r.ok
  · refine br_yes rfl (br_yes ?_ ?_) <;> simp
  refine br_no rfl ?_
  by_cases n0 : now < 0
  · have : mayT now = false := by unfold mayT; rw [no_of (p := 0 ≤ now) (by omega)]; rfl
    rw [this]
    exact br_yes (yes_of n0) (br_yes rfl (by simp))
  refine br_no (no_of n0) ?_
  by_cases n1 : now > 253402300799
  · have : mayT now = false := by unfold mayT; rw [no_of (p := now ≤ 253402300799) (by omega), Bool.and_false]
    rw [this]
    exact br_yes (yes_of n1) (br_yes rfl (by simp))
  refine br_no (no_of n1) ?_
  have hm : mayT now = true := by unfold mayT; rw [yes_of (p := 0 ≤ now) (by omega), yes_of (p := now ≤ 253402300799) (by omega)]; rfl
  rw [hm, if_pos ⟨rfl, rfl⟩]
  have hpx : r.pa = true → r.nx = -1 := fun hp => by
    have := hok
    unfold Row.ok at this
    simp only [Bool.and_eq_true] at this
    have := this.2.1
    rw [hp] at this
    simpa using this
  by_cases hx : r.nx = -1
  · rw [if_pos (.inl hx)]
    cases hp : r.pa
    · exact br_no hp (br_yes (show (r.nx == -1) = true by simpa using hx) (br_yes rfl (by simp [Row.tup])))
    · exact br_yes hp (br_yes rfl (by simp [Row.tup]))
  have hp : r.pa = false := by
    cases hp : r.pa
    · rfl
    · exact absurd (hpx hp) hx
  refine br_no hp (br_no (show (r.nx == -1) = false by simpa using hx) ?_)
  by_cases hgt : r.nx > now
  · rw [if_pos (.inr hgt)]
    exact br_yes (yes_of hgt) (br_yes rfl (by simp [Row.tup]))
  rw [if_neg (by simp [hx, hgt])]
  refine br_no (no_of hgt) ?_
  -- something is offered
  obtain ⟨x1, x2⟩ := line_next hok hx
  obtain ⟨x0, _⟩ := mayT_true x1
  obtain ⟨last, hl, hge⟩ := latestJ_of hin.1 x2 (a := now) (by omega)
  obtain ⟨l0, l1, l2, hg⟩ := latestJ_some hl
  have hL := job_Latest_fn hin.1 now
  rw [hl] at hL
  obtain ⟨_, hca, _⟩ := ok0_parts (good_ok0 hg)
  have told : Told r now (offL r now) := by
    unfold offL
    have one : ∀ {t : Int}, t = last → Told r now [t] := fun {t} e => by
      subst e
      exact ⟨fun u hu => by simp at hu; subst hu; exact ⟨latestJ_is hl, hge, l2⟩, List.pairwise_singleton _ _⟩
    by_cases c0 : r.j.ca = 0
    · rw [if_pos c0, hl]
      simp only
      split
      · exact ⟨fun u hu => (by cases hu), List.Pairwise.nil⟩
      · exact one rfl
    · rw [if_neg c0]
      by_cases c1 : r.j.ca = 1
      · rw [if_pos c1, hl]; exact one rfl
      · rw [if_neg c1]
        obtain ⟨a, b⟩ := chain_mem (timesL_chain (j := r.j) (hi := now) (d := 4) (p := r.nx - 1))
        exact ⟨fun u hu => by obtain ⟨p, q, s⟩ := a u hu; exact ⟨p, by omega, s⟩, b⟩
  obtain ⟨k, hk⟩ := catch_loop hin (now := now) (last := last) (then_ := nextT r.j now) x0 (offL_len r now) told (offL r now).length 0 (by omega)
  refine ⟨_, hL, br_no rfl (br_no (no_of (by show ¬ (last < r.nx); omega)) ⟨_, ⟨k, hk⟩, _, job_First_fn hin.1 now, ?_⟩)⟩
  have R := catch_rest (r := r) (now := now) (last := last) (l := offL r now) (by omega) (by omega) l0 l2 hca
    (fun c2 => by
      have e : offL r now = timesL r.j now 4 (r.nx - 1) [] := by unfold offL; rw [if_neg (by omega), if_neg (by omega)]
      have hfst : firstJ r.j (r.nx - 1) = some r.nx := ofJ_iff.mp x2
      have len := offL_len r now
      refine ⟨?_, len, ?_, fun hne => ?_⟩
      · rw [e, timesL_cons hfst (by omega)]; simp
      · rw [e, timesL_cons hfst (by omega)]; rfl
      · have hlt : (timesL r.j now 4 (r.nx - 1) []).length < 4 := by rw [← e]; omega
        have hmem := timesL_all hin.1 hlt last (latestJ_is hl) (by omega) l2
        rw [← e] at hmem
        have up := rising_last told.rise hmem
        have hpos : 0 < (offL r now).length := List.length_pos_of_mem hmem
        have := told.all _ (getD_mem (l := offL r now) (i := (offL r now).length - 1) (by omega))
        obtain ⟨v, hv, hv2⟩ := latestJ_of hin.1 this.1 this.2.2
        rw [hl] at hv; cases hv
        omega)
    (fun c1 => by unfold offL; rw [if_neg (by omega), if_pos c1, hl])
    (fun c0 => by unfold offL; rw [if_pos c0, hl])
  unfold nextT
  cases hf : firstJ r.j now with
  | none => exact br_no rfl (br_yes rfl (br_no rfl R))
  | some v => exact br_yes rfl (br_no (bne_self _) (br_no rfl R))

theorem law_DueCatch (x : rowTy.den) (h : inT rowTy x) (now : Int) (w : (Lit.int .i64 now).wf = true) :
    curfewlaw13_DueCatch_R x.1.1 x.1.2.1 x.1.2.2.1.1 x.1.2.2.1.2.1 x.1.2.2.1.2.2.1 x.1.2.2.1.2.2.2.1 x.1.2.2.1.2.2.2.2 x.1.2.2.2.1 x.1.2.2.2.2.1 x.1.2.2.2.2.2.1 x.1.2.2.2.2.2.2 x.2.1 x.2.2.1 x.2.2.2.1.1 x.2.2.2.1.2.1 x.2.2.2.1.2.2 x.2.2.2.2 now true :=
  catch_law (r0 := rowOf x) (rowOf_in h).1 (rowOf_in h).2 now
end Go.Proofs.YtiffoefhadgdnaaDoor
