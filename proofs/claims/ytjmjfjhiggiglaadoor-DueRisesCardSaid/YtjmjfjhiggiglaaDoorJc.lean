/- What is launched of a row: offers, steps, answers. -/
import Derived.Test.YtjmjfjhiggiglaaDoorJb
namespace Go.Proofs.YtjmjfjhiggiglaaDoor
open Go Go.B
set_option linter.unusedSimpArgs false
set_option linter.unusedVariables false
set_option linter.unusedSectionVars false
set_option maxRecDepth 20000

theorem good_ok0 {j : Job} (h : j.good = true) : j.ok0 = true := by unfold Job.good at h; simp only [Bool.and_eq_true] at h; exact h.1

theorem ok0_parts {j : Job} (h : j.ok0 = true) : (0 ≤ j.ov ∧ j.ov ≤ 1) ∧ (0 ≤ j.ca ∧ j.ca ≤ 2) ∧ (0 ≤ j.re ∧ j.re ≤ 3) ∧ (j.once = true → 0 ≤ j.at_ ∧ j.at_ ≤ 253402300799) ∧ (j.once = false → j.c.ok = true) := by
  unfold Job.ok0 ltd at h
  simp only [Bool.and_eq_true, decide_eq_true_eq] at h
  obtain ⟨_, ⟨h1, h2, h3⟩, h4⟩ := h
  refine ⟨h1, h2, h3, fun ho => ?_, fun ho => ?_⟩
  · rw [ho] at h4
    simp only [if_true, Bool.and_eq_true, decide_eq_true_eq] at h4
    exact ⟨h4.1.1, h4.1.2⟩
  · rw [ho] at h4
    simp only [Bool.false_eq_true, if_false, Bool.and_eq_true] at h4
    exact h4.1

theorem latestJ_some {j : Job} {t u : Int} (h : latestJ j t = some u) : 0 ≤ u ∧ u ≤ 253402300799 ∧ u ≤ t ∧ j.good = true := by
  unfold latestJ at h
  split at h
  · rename_i hg
    split at h
    · rename_i ho
      have := (ok0_parts (good_ok0 hg)).2.2.2.1 ho
      split at h
      · rename_i q; cases h; exact ⟨this.1, this.2, q, hg⟩
      · cases h
    · obtain ⟨hok, n, h1, h2, h3⟩ := lastF_some h
      obtain ⟨n0, n1⟩ := fitD_day h1
      obtain ⟨t0, t1⟩ := onL_day hok h2
      exact ⟨by omega, by omega, h3, hg⟩
  · cases h

theorem firstJ_some {j : Job} {t u : Int} (h : firstJ j t = some u) : 0 ≤ u ∧ u ≤ 253402300799 ∧ t < u ∧ j.good = true := by
  have hgt := firstJ_gt h
  unfold firstJ at h
  split at h
  · rename_i hg
    split at h
    · rename_i ho
      have := (ok0_parts (good_ok0 hg)).2.2.2.1 ho
      split at h
      · cases h; exact ⟨this.1, this.2, hgt, hg⟩
      · cases h
    · obtain ⟨hok, n, h1, h2, h3⟩ := nextF_some h
      obtain ⟨n0, n1⟩ := fitD_day h1
      obtain ⟨t0, t1⟩ := onL_day hok h2
      exact ⟨by omega, by omega, hgt, hg⟩
  · cases h

theorem row_good {r : Row} (h : r.ok = true) : r.j.good = true := by unfold Row.ok at h; simp only [Bool.and_eq_true] at h; exact h.1

noncomputable def nextT (j : Job) (now : Int) : Int := match firstJ j now with | some t => t | none => -1

noncomputable def offL (r : Row) (now : Int) : List Int :=
  if r.j.ca = 0 then (match latestJ r.j now with | some t => if now - t > 59 then [] else [t] | none => [])
  else if r.j.ca = 1 then (match latestJ r.j now with | some t => [t] | none => [])
  else timesL r.j now 4 (r.nx - 1) []

noncomputable def occL (r : Row) (now : Int) : List Int × Int :=
  if r.ok = true ∧ mayT now = true then (if r.nx = -1 ∨ r.nx > now then ([], r.nx) else (offL r now, nextT r.j now)) else ([], -1)

theorem due_next_fn {j : Job} (h : j.in) (t : Int) : due_next_R j.name j.once j.c.mi j.c.ho j.c.da j.c.mo j.c.we j.at_ j.ov j.ca j.re t (nextT j t) := by
  refine ⟨_, job_First_fn h t, ?_⟩
  unfold nextT
  cases firstJ j t with
  | none => exact br_no rfl rfl
  | some u => exact br_yes rfl rfl

theorem line_next {r : Row} (h : r.ok = true) (hx : r.nx ≠ -1) : mayT r.nx = true ∧ ofJ r.j r.nx = true := by
  unfold Row.ok at h
  simp only [Bool.and_eq_true] at h
  have hall := h.2.2.2.2.2.2.2.2
  rw [List.all_eq_true] at hall
  have : r.nx ∈ r.line := by unfold Row.line; rw [if_neg hx]; simp
  have := hall _ this
  simpa using this

theorem due_Occur_fn {r : Row} (h : r.in) (now : Int) : due_Occur_R r.j.name r.j.once r.j.c.mi r.j.c.ho r.j.c.da r.j.c.mo r.j.c.we r.j.at_ r.j.ov r.j.ca r.j.re r.pa r.nx r.num r.due r.try_ r.q now (occL r now) := by
  refine ⟨_, table_CheckRow_fn h, ?_⟩
  unfold occL
  cases hok : r.ok
  · exact br_yes rfl (by simp)
  refine br_no rfl ⟨_, times_May_fn now, ?_⟩
  cases hm : mayT now
  · exact br_yes rfl (by simp)
  refine br_no rfl ?_
  simp only [and_self, if_true]
  obtain ⟨m0, m1⟩ := mayT_true hm
  by_cases hx : r.nx = -1
  · refine br_yes (by simpa using hx) ?_
    rw [if_pos (.inl hx)]
  refine br_no (by simpa using hx) ?_
  by_cases hn : r.nx > now
  · refine br_yes (yes_of hn) ?_
    rw [if_pos (.inr hn)]
  refine br_no (no_of hn) ?_
  rw [if_neg (by simp [hx, hn])]
  have hg := row_good hok
  obtain ⟨_, ⟨c0, c2⟩, _⟩ := ok0_parts (good_ok0 hg)
  obtain ⟨x0, _⟩ := line_next hok hx
  obtain ⟨x0, x1⟩ := mayT_true x0
  refine ⟨by simp; omega, ?_⟩
  have off : offN 0 r.j.ca 1 = r.j.ca.toNat := by simp [offN]
  rw [off]
  have hN := due_next_fn h.1 now
  have hL := job_Latest_fn h.1 now
  unfold offL
  by_cases h0 : r.j.ca = 0
  · rw [if_pos h0]
    refine br_yes (by rw [h0]; rfl) ⟨_, hL, ?_⟩
    cases hl : latestJ r.j now with
    | none => exact br_yes rfl ⟨_, hN, rfl⟩
    | some t =>
      obtain ⟨t0, t1, t2, _⟩ := latestJ_some hl
      refine br_no rfl ?_
      show br (decide (IntKind.wrap .i64 (now - t) > 59)) _ _
      rw [wi (x := now - t) (by omega) (by omega)]
      by_cases hd : now - t > 59
      · exact br_yes (yes_of hd) ⟨_, hN, by simp [hd]⟩
      · exact br_no (no_of hd) ⟨_, hN, by simp only [hd, if_false]; rfl⟩
  · rw [if_neg h0]
    refine br_no (by simp; omega) ?_
    by_cases h1 : r.j.ca = 1
    · rw [if_pos h1]
      refine br_yes (by rw [h1]; rfl) ⟨_, hL, ?_⟩
      cases hl : latestJ r.j now with
      | none => exact br_yes rfl ⟨_, hN, rfl⟩
      | some t =>
        obtain ⟨t0, t1, t2, _⟩ := latestJ_some hl
        refine br_no rfl ?_
        show br (decide (IntKind.wrap .i64 (now - t) > now)) _ _
        rw [wi (x := now - t) (by omega) (by omega)]
        exact br_no (no_of (by omega)) ⟨_, hN, rfl⟩
    · rw [if_neg h1]
      refine br_no (by simp; omega) (br_yes (by simp; omega) ⟨(timesL r.j now 4 (r.nx - 1) [], 0), ?_, _, hN, rfl⟩)
      have := job_Times_fn h.1 hg (r.nx - 1) now (most := 4) (by omega)
      rw [wi (x := r.nx - 1) (by omega) (by omega)]
      exact this

theorem Clone_fn {l : List Int} (h : l.length ≤ 1000000) : slices_Clone__int64_int64_R l l :=
  ⟨fun h0 => by have := Nat.eq_of_beq_eq_true h0; rw [List.length_eq_zero_iff] at this; exact this.symm, nl_ok (by omega), rfl⟩

/-- what goes on of a row: its queue, what runs, what was launched -/
structure Go3 where
  q : List Int
  n : Int
  d : Int
  y : Int
  tn : Int
  tm : Int
  td : Int
  many : Int

def Go3.take (ov name num : Int) (g : Go3) (t : Int) : Go3 :=
  if (g.n == 0) && ((g.d == 0) && ((g.y == 0) && true)) then { g with n := num, d := t, y := 0, tn := num, tm := name, td := t, many := 1 }
  else if ov = 1 ∧ g.q.length < 3 then { g with q := g.q ++ [t] } else g

theorem take_many {ov name num : Int} {g : Go3} {t : Int} (h : 0 ≤ g.many ∧ g.many ≤ 1) : 0 ≤ (g.take ov name num t).many ∧ (g.take ov name num t).many ≤ 1 := by
  unfold Go3.take
  split
  · exact ⟨by simp, by simp⟩
  · split <;> exact h

theorem take_len {ov name num : Int} {g : Go3} {t : Int} (h : g.q.length ≤ 1000) : (g.take ov name num t).q.length ≤ 1000 := by
  unfold Go3.take
  split
  · exact h
  · split
    · rename_i q; simp; omega
    · exact h

theorem Step_loop {r : Row} {num nx : Int} {l : List Int} (hl : l.length ≤ 1000000) : ∀ (d i : Nat) (g : Go3), i + d = l.length → g.q.length ≤ 1000 →
    ∃ k, due_Step_l0 k (g.q, r.j.name, r.j.once, r.j.c.mi, r.j.c.ho, r.j.c.da, r.j.c.mo, r.j.c.we, r.j.at_, r.j.ov, r.j.ca, r.j.re, r.pa, r.nx, g.n, g.d, g.y, g.tn, g.tm, g.td, g.many, num, nx, l, (l.length : Int), (i : Int))
      (let z := (l.drop i).foldl (Go3.take r.j.ov r.j.name num) g; (z.q, z.n, z.d, z.y, z.tn, z.tm, z.td, z.many)) := by
  intro d
  induction d with
  | zero =>
    intro i g hi hq
    refine ⟨1, br_no (no_of (by omega)) ?_⟩
    rw [show l.drop i = [] from List.drop_eq_nil_of_le (by omega)]
    rfl
  | succ d ih =>
    intro i g hi hq
    have hlt : i < l.length := by omega
    obtain ⟨k, hk⟩ := ih (i + 1) (g.take r.j.ov r.j.name num (l.getD i 0)) (by omega) (take_len hq)
    rw [drop_cons hlt, List.foldl_cons]
    refine ⟨k + 1, br_yes (yes_of (by omega)) ⟨ix_ok hlt, ?_⟩⟩
    have ew : IntKind.wrap .i64 ((i : Int) + 1) = ((i + 1 : Nat) : Int) := wi_succ (by omega)
    rw [ew]
    show br ((g.n == 0) && ((g.d == 0) && ((g.y == 0) && true))) (due_Step_l0 k (g.q, r.j.name, r.j.once, r.j.c.mi, r.j.c.ho, r.j.c.da, r.j.c.mo, r.j.c.we, r.j.at_, r.j.ov, r.j.ca, r.j.re, r.pa, r.nx, num, l.getD i 0, 0, num, r.j.name, l.getD i 0, 1, num, nx, l, (l.length : Int), ((i + 1 : Nat) : Int)) _) _
    generalize hz : (l.drop (i + 1)).foldl (Go3.take r.j.ov r.j.name num) (g.take r.j.ov r.j.name num (l.getD i 0)) = z at hk ⊢
    clear hz
    unfold Go3.take at hk
    cases hc : (g.n == 0) && ((g.d == 0) && ((g.y == 0) && true))
    · rw [hc] at hk
      refine br_no rfl ?_
      by_cases ho : r.j.ov = 1
      · refine br_yes (by simpa using ho) ?_
        by_cases h3 : g.q.length < 3
        · refine br_yes (yes_of (by omega)) ⟨nl_ok (by simp; omega), ?_⟩
          simpa [ho, h3] using hk
        · refine br_no (no_of (by omega)) ?_
          simpa [ho, h3] using hk
      · refine br_no (by simpa using ho) ?_
        simpa [ho] using hk
    · rw [hc] at hk
      exact br_yes rfl (by simpa using hk)

/-- a row, as it is handed on -/
def Row.tup (r : Row) : Int × Bool × Int × Int × Int × Int × Int × Int × Int × Int × Int × Bool × Int × Int × Int × Int × List Int :=
  (r.j.name, r.j.once, r.j.c.mi, r.j.c.ho, r.j.c.da, r.j.c.mo, r.j.c.we, r.j.at_, r.j.ov, r.j.ca, r.j.re, r.pa, r.nx, r.num, r.due, r.try_, r.q)

def noRow : Int × Bool × Int × Int × Int × Int × Int × Int × Int × Int × Int × Bool × Int × Int × Int × Int × List Int := (0, false, 0, 0, 0, 0, 0, 0, 0, 0, 0, false, 0, 0, 0, 0, [])

def Row.go3 (r : Row) : Go3 := ⟨r.q, r.num, r.due, r.try_, 0, 0, 0, 0⟩

noncomputable def stepG (r : Row) (now num : Int) : Go3 := (occL r now).1.foldl (Go3.take r.j.ov r.j.name num) r.go3

noncomputable def stepL (r : Row) (now num : Int) : (Int × Bool × Int × Int × Int × Int × Int × Int × Int × Int × Int × Bool × Int × Int × Int × Int × List Int) × List (Int × Int × Int × Int) × Int :=
  if r.ok = true ∧ mayT now = true ∧ num ≠ 0 then
    (({ r with nx := (occL r now).2, num := (stepG r now num).n, due := (stepG r now num).d, try_ := (stepG r now num).y, q := (stepG r now num).q } : Row).tup, (if (stepG r now num).many = 0 then [] else [((stepG r now num).tn, (stepG r now num).tm, (stepG r now num).td, 0)]), 0)
  else (noRow, [], 230)

theorem fold_many {ov name num : Int} : ∀ {l : List Int} {g : Go3}, 0 ≤ g.many ∧ g.many ≤ 1 → 0 ≤ (l.foldl (Go3.take ov name num) g).many ∧ (l.foldl (Go3.take ov name num) g).many ≤ 1
  | [], g, h => h
  | x :: l, g, h => fold_many (l := l) (take_many h)

theorem timesL_len {j : Job} {hi : Int} : ∀ {d : Nat} {t : Int} {out : List Int}, (timesL j hi d t out).length ≤ out.length + d
  | 0, _, out => Nat.le_refl _
  | d + 1, t, out => by
    unfold timesL
    cases firstJ j t with
    | none => simp
    | some u =>
      simp only
      split
      · simp
      · have := timesL_len (j := j) (hi := hi) (d := d) (t := u) (out := out ++ [u])
        simp at this; omega

theorem offL_len (r : Row) (now : Int) : (offL r now).length ≤ 4 := by
  unfold offL
  split
  · cases latestJ r.j now with
    | none => simp
    | some t => simp only; split <;> simp
  · split
    · cases latestJ r.j now with
      | none => simp
      | some t => simp
    · have := timesL_len (j := r.j) (hi := now) (d := 4) (t := r.nx - 1) (out := [])
      simpa using this

theorem occL_len (r : Row) (now : Int) : (occL r now).1.length ≤ 4 := by
  unfold occL
  split
  · split
    · simp
    · exact offL_len r now
  · simp

theorem due_Step_fn {r : Row} (h : r.in) (now num : Int) : due_Step_R r.j.name r.j.once r.j.c.mi r.j.c.ho r.j.c.da r.j.c.mo r.j.c.we r.j.at_ r.j.ov r.j.ca r.j.re r.pa r.nx r.num r.due r.try_ r.q now num (stepL r now num) := by
  refine ⟨_, table_CheckRow_fn h, ?_⟩
  unfold stepL
  cases hok : r.ok
  · exact br_yes rfl (by simp [noRow])
  refine br_no rfl ⟨_, times_May_fn now, ?_⟩
  cases hm : mayT now
  · exact br_yes rfl (by simp [noRow])
  refine br_no rfl ?_
  by_cases hn : num = 0
  · exact br_yes (by simpa using hn) (by simp [noRow, hn])
  refine br_no (by simpa using hn) ?_
  have ol := occL_len r now
  have hq := h.2.1
  obtain ⟨k, hk⟩ := Step_loop (r := r) (num := num) (nx := (occL r now).2) (l := (occL r now).1) (by omega) (occL r now).1.length 0 r.go3 (by omega) (by exact hq)
  rw [List.drop_zero] at hk
  refine ⟨_, due_Occur_fn h now, _, Clone_fn (by omega), _, ⟨k, hk⟩, ?_⟩
  have mm := fold_many (ov := r.j.ov) (name := r.j.name) (num := num) (l := (occL r now).1) (g := r.go3) ⟨by simp [Row.go3], by simp [Row.go3]⟩
  rw [if_pos ⟨rfl, rfl, hn⟩]
  have e : (occL r now).1.foldl (Go3.take r.j.ov r.j.name num) r.go3 = stepG r now num := rfl
  rw [e] at mm ⊢
  rcases (show (stepG r now num).many = 0 ∨ (stepG r now num).many = 1 by omega) with e0 | e0
  · simp only [e0]
    exact ⟨by decide, by decide, rfl⟩
  · simp only [e0]
    exact ⟨by decide, by decide, rfl⟩

abbrev EndT := (Int × Bool × Int × Int × Int × Int × Int × Int × Int × Int × Int × Bool × Int × Int × Int × Int × List Int) × List (Int × Int × Int × Int) × Bool × Int

def endQ (r : Row) (fresh : Int) : EndT := match r.q with
  | t :: q => (({ r with num := fresh, due := t, try_ := 0, q := q } : Row).tup, [(fresh, r.j.name, t, 0)], false, 0)
  | [] => (({ r with num := 0, due := 0, try_ := 0 } : Row).tup, [], r.j.once && (r.nx == -1), 0)

noncomputable def endL (r : Row) (num : Int) (ok : Bool) (fresh : Int) : EndT :=
  if r.ok = false ∨ fresh = 0 ∨ fresh = num then (noRow, [], false, 230)
  else if num = 0 ∨ r.num ≠ num then (noRow, [], false, 4)
  else if ok = false ∧ r.try_ < r.j.re then (({ r with num := fresh, try_ := r.try_ + 1 } : Row).tup, [(fresh, r.j.name, r.due, r.try_ + 1)], false, 0)
  else endQ r fresh

theorem ok_try {r : Row} (h : r.ok = true) : 0 ≤ r.try_ ∧ r.try_ ≤ 3 := by
  have hg := row_good h
  have := (ok0_parts (good_ok0 hg)).2.2.1
  unfold Row.ok at h
  simp only [Bool.and_eq_true, decide_eq_true_eq] at h
  omega

theorem due_End_fn {r : Row} (h : r.in) (num : Int) (ok : Bool) (fresh : Int) : due_End_R r.j.name r.j.once r.j.c.mi r.j.c.ho r.j.c.da r.j.c.mo r.j.c.we r.j.at_ r.j.ov r.j.ca r.j.re r.pa r.nx r.num r.due r.try_ r.q num ok fresh (endL r num ok fresh) := by
  refine ⟨_, table_CheckRow_fn h, ?_⟩
  unfold endL
  cases hok : r.ok
  · exact br_yes rfl (by simp [noRow])
  refine br_no rfl ?_
  by_cases h1 : fresh = 0
  · exact br_yes (by simpa using h1) (by simp [noRow, h1])
  refine br_no (by simpa using h1) ?_
  by_cases h2 : fresh = num
  · exact br_yes (by simpa using h2) (by simp [noRow, h2])
  refine br_no (by simpa using h2) ?_
  rw [if_neg (by simp [h1, h2])]
  by_cases h3 : num = 0
  · exact br_yes (by simpa using h3) (by simp [noRow, h3])
  refine br_no (by simpa using h3) ?_
  by_cases h4 : r.num = num
  rotate_left
  · exact br_yes (by simpa using h4) (by simp [noRow, h4])
  refine br_no (by simpa using h4) ?_
  rw [if_neg (by simp [h3, h4])]
  refine ⟨_, Clone_fn (l := r.q) (by have := h.2.1; omega), ?_⟩
  obtain ⟨y0, y1⟩ := ok_try hok
  have ew : IntKind.wrap .i64 (r.try_ + 1) = r.try_ + 1 := wi (by omega) (by omega)
  have rest : br (decide (((r.q.length : Nat) : Int) > 0)) (req (decide (0 < (((r.q.length) : Nat) : Int))) (req (Nat.blt 0 (r.q.length)) (req (Nat.ble 1 (r.q.length)) (req (Nat.ble (1 + ((r.q.length) - 1)) (r.q.length)) ((((r.j.name, (r.j.once, (r.j.c.mi, (r.j.c.ho, (r.j.c.da, (r.j.c.mo, (r.j.c.we, (r.j.at_, (r.j.ov, (r.j.ca, (r.j.re, (r.pa, (r.nx, (fresh, ((List.getD r.q 0 0), (0, (List.take ((r.q.length) - 1) (List.drop 1 r.q)))))))))))))))))), ([(fresh, (r.j.name, ((List.getD r.q 0 0), 0)))], (false, 0))) : EndT) = endQ r fresh)))))
      (br r.j.once ((((r.j.name, (r.j.once, (r.j.c.mi, (r.j.c.ho, (r.j.c.da, (r.j.c.mo, (r.j.c.we, (r.j.at_, (r.j.ov, (r.j.ca, (r.j.re, (r.pa, (r.nx, (0, (0, (0, r.q)))))))))))))))), ([], ((r.nx == (-1)), 0))) : EndT) = endQ r fresh)
      ((((r.j.name, (r.j.once, (r.j.c.mi, (r.j.c.ho, (r.j.c.da, (r.j.c.mo, (r.j.c.we, (r.j.at_, (r.j.ov, (r.j.ca, (r.j.re, (r.pa, (r.nx, (0, (0, (0, r.q)))))))))))))))), ([], (false, 0))) : EndT) = endQ r fresh)) := by
    unfold endQ
    cases hq : r.q with
    | nil =>
      refine br_no (by simp) ?_
      unfold Row.tup
      cases ho : r.j.once
      · exact br_no rfl (by simp [hq, ho])
      · exact br_yes rfl (by simp [hq, ho])
    | cons t q =>
      refine br_yes (yes_of (by simp <;> omega)) ⟨yes_of (by simp <;> omega), by simp [Nat.blt_eq], by simp, by simp <;> omega, ?_⟩
      unfold Row.tup
      simp
  cases ok
  · refine br_yes rfl ?_
    by_cases h5 : r.try_ < r.j.re
    · refine br_yes (yes_of h5) ?_
      rw [if_pos ⟨rfl, h5⟩, ew]; rfl
    · rw [if_neg (by simp [h5])]
      exact br_no (no_of h5) rest
  · rw [if_neg (by simp)]
    exact br_no rfl rest
end Go.Proofs.YtjmjfjhiggiglaaDoor
