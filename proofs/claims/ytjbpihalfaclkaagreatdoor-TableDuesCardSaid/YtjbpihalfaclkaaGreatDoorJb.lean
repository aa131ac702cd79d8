/- What rows of a table come to: which may be. -/
import Derived.Test.YtjbpihalfaclkaaGreatDoorMv
import Derived.Test.YtjbpihalfaclkaaGreatDoorJt
namespace Go.Proofs.YtjbpihalfaclkaaGreatDoor
open Go Go.B
set_option linter.unusedSimpArgs false
set_option linter.unusedVariables false
set_option linter.unusedSectionVars false
set_option maxRecDepth 20000

/-- a row -/
structure Row where
  j : Job
  pa : Bool
  nx : Int
  num : Int
  due : Int
  try_ : Int
  q : List Int

def Row.in (r : Row) : Prop := r.j.in ∧ r.q.length ≤ 1000 ∧ (0 ≤ r.num)

/-- all times of a row that have to rise -/
def Row.line (r : Row) : List Int := ((if r.num > 0 then [r.due] else []) ++ r.q) ++ (if r.nx = -1 then [] else [r.nx])

def riseB : List Int → Bool
  | a :: b :: l => decide (a < b) && riseB (b :: l)
  | _ => true

noncomputable def Row.ok (r : Row) : Bool :=
  r.j.good && ((!r.pa || r.nx == -1) && (decide (r.try_ ≥ 0) && (decide (r.try_ ≤ r.j.re) && (decide (((r.q.length : Nat) : Int) ≤ 3) && ((!(r.num == 0) || ((r.num == 0) && ((r.due == 0) && ((r.try_ == 0) && true))) && (((r.q.length : Nat) : Int) == 0)) && (((r.j.ov == 1) || (((r.q.length : Nat) : Int) == 0)) &&
    (riseB r.line && r.line.all fun t => mayT t && ofJ r.j t)))))))

theorem table_line_fn {r : Row} (h : r.in) : table_line_R r.j.name r.j.once r.j.c.mi r.j.c.ho r.j.c.da r.j.c.mo r.j.c.we r.j.at_ r.j.ov r.j.ca r.j.re r.pa r.nx r.num r.due r.try_ r.q r.line := by
  have hl := h.2.1
  have ne : (r.nx != -1) = !decide (r.nx = -1) := by
    by_cases e : r.nx = -1 <;> simp [e]
  unfold Row.line
  by_cases hn : r.num > 0
  · refine br_yes (yes_of hn) ⟨nl_ok (by simp; omega), ?_⟩
    rw [if_pos hn]
    by_cases hx : r.nx = -1
    · rw [if_pos hx]
      exact br_no (by rw [ne, yes_of hx]; rfl) (by simp)
    · rw [if_neg hx]
      exact br_yes (by rw [ne, no_of hx]; rfl) ⟨nl_ok (by simp; omega), rfl⟩
  · refine br_no (no_of hn) ⟨nl_ok (by omega), ?_⟩
    rw [if_neg hn]
    by_cases hx : r.nx = -1
    · rw [if_pos hx]
      exact br_no (by rw [ne, yes_of hx]; rfl) (by simp)
    · rw [if_neg hx]
      exact br_yes (by rw [ne, no_of hx]; rfl) ⟨nl_ok (by simp; omega), rfl⟩

theorem line_len {r : Row} (h : r.in) : r.line.length ≤ 1002 := by
  have hl := h.2.1
  unfold Row.line
  rw [List.length_append, List.length_append]
  have a : (if r.num > 0 then [r.due] else []).length ≤ 1 := by split <;> simp
  have b : (if r.nx = -1 then [] else [r.nx]).length ≤ 1 := by split <;> simp
  omega

theorem rise_fn {l : List Int} (hl : l.length ≤ 1000000) : table_rise_R l (riseB l) := by
  have key : ∀ (d i : Nat), i + d = l.length → 1 ≤ i → ∃ k, table_rise_l0 k (l, (i : Int)) (if riseB (l.drop (i - 1)) then .inr () else .inl ()) := by
    intro d
    induction d with
    | zero =>
      intro i hi h1
      refine ⟨1, br_no (no_of (by omega)) ?_⟩
      obtain ⟨i, rfl⟩ : ∃ m, i = m + 1 := ⟨i - 1, by omega⟩
      have hlt : i < l.length := by omega
      rw [Nat.add_sub_cancel, drop_cons hlt, show l.drop (i + 1) = [] from List.drop_eq_nil_of_le (by omega)]
      rfl
    | succ d ih =>
      intro i hi h1
      obtain ⟨k, hk⟩ := ih (i + 1) (by omega) (by omega)
      obtain ⟨i, rfl⟩ : ∃ m, i = m + 1 := ⟨i - 1, by omega⟩
      have hlt : i < l.length := by omega
      have hlt1 : i + 1 < l.length := by omega
      have ew : IntKind.wrap .i64 (((i + 1 : Nat) : Int) - 1) = (i : Int) := by rw [wi (by omega) (by omega)]; omega
      refine ⟨k + 1, br_yes (yes_of (by omega)) ⟨?_, ⟨ix_ok hlt1, ?_⟩⟩⟩
      · show ((decide (0 ≤ IntKind.wrap .i64 (((i + 1 : Nat) : Int) - 1))) && (decide (IntKind.wrap .i64 (((i + 1 : Nat) : Int) - 1) < (l.length : Int)))) = true
        rw [ew]; exact ix_ok hlt
      · show br (decide (l.getD (Int.toNat (IntKind.wrap .i64 (((i + 1 : Nat) : Int) - 1))) 0 ≥ l.getD (i + 1) 0)) _ (table_rise_l0 k (l, IntKind.wrap .i64 (((i + 1 : Nat) : Int) + 1)) _)
        rw [ew, wi_succ (n := i + 1) (by omega)]
        show br (decide (l.getD i 0 ≥ l.getD (i + 1) 0)) _ _
        rw [Nat.add_sub_cancel, drop_cons hlt, drop_cons hlt1]
        rw [Nat.add_sub_cancel, drop_cons hlt1] at hk
        by_cases hc : l.getD i 0 ≥ l.getD (i + 1) 0
        · refine br_yes (yes_of hc) ?_
          unfold riseB
          rw [no_of (p := l.getD i 0 < l.getD (i + 1) 0) (by omega)]; rfl
        · refine br_no (no_of hc) ?_
          unfold riseB
          rw [yes_of (p := l.getD i 0 < l.getD (i + 1) 0) (by omega), Bool.true_and]
          exact hk
  cases hl' : l with
  | nil => exact ⟨.inr (), ⟨1, br_no (by decide) rfl⟩, rfl⟩
  | cons a l2 =>
    have hp : 1 ≤ l.length := by rw [hl']; simp
    obtain ⟨k, hk⟩ := key (l.length - 1) 1 (by omega) (Nat.le_refl _)
    rw [show 1 - 1 = 0 from rfl, List.drop_zero] at hk
    rw [← hl']
    refine ⟨_, ⟨k, hk⟩, ?_⟩
    cases riseB l <;> rfl

theorem table_of_fn {j : Job} (h : j.in) {t : Int} (ht : mayT t = true) : table_of_R j.name j.once j.c.mi j.c.ho j.c.da j.c.mo j.c.we j.at_ j.ov j.ca j.re t (ofJ j t) := by
  obtain ⟨t0, t1⟩ := mayT_true ht
  have hf := job_First_fn h (t - 1)
  rw [← wi (x := t - 1) (by omega) (by omega)] at hf
  refine ⟨_, hf, ?_⟩
  rw [wi (x := t - 1) (by omega) (by omega)]
  unfold ofJ
  cases firstJ j (t - 1) with
  | none => exact br_no rfl rfl
  | some u => exact br_yes rfl rfl
section
variable {r : Row} (h : r.in)
include h

/-- the loop, from a flag on -/
theorem look_fn {l : List Int} (hl : l.length ≤ 1000000) : ∀ (d i : Nat) (b : Bool), i + d = l.length → ∃ k, table_CheckRow_l0 k (l, r.j.name, r.j.once, r.j.c.mi, r.j.c.ho, r.j.c.da, r.j.c.mo, r.j.c.we, r.j.at_, r.j.ov, r.j.ca, r.j.re, r.pa, r.nx, r.num, r.due, r.try_, r.q, b, (l.length : Int), (i : Int)) (b && (l.drop i).all fun t => mayT t && ofJ r.j t) := by
  intro d
  induction d with
  | zero =>
    intro i b hi
    refine ⟨1, br_no (no_of (by omega)) ?_⟩
    rw [show l.drop i = [] from List.drop_eq_nil_of_le (by omega)]
    simp
  | succ d ih =>
    intro i b hi
    have hlt : i < l.length := by omega
    rw [drop_cons hlt, List.all_cons]
    cases b with
    | false => exact ⟨1, br_yes (yes_of (by omega)) ⟨ix_ok hlt, ⟨blt_ok hlt, br_no rfl rfl⟩⟩⟩
    | true =>
      cases hm : mayT (l.getD i 0) with
      | false =>
        have q := times_May_fn (l.getD i 0)
        rw [hm] at q
        exact ⟨1, br_yes (yes_of (by omega)) ⟨ix_ok hlt, ⟨blt_ok hlt, br_yes rfl ⟨_, q, br_no rfl rfl⟩⟩⟩⟩
      | true =>
        have q := times_May_fn (l.getD i 0)
        rw [hm] at q
        have q2 := table_of_fn h.1 hm
        obtain ⟨k, hk⟩ := ih (i + 1) true (by omega)
        cases ho : ofJ r.j (l.getD i 0) with
        | false =>
          rw [ho] at q2
          exact ⟨1, br_yes (yes_of (by omega)) ⟨ix_ok hlt, ⟨blt_ok hlt, br_yes rfl ⟨_, q, br_yes rfl ⟨_, q2, br_yes rfl rfl⟩⟩⟩⟩⟩
        | true =>
          rw [ho] at q2
          refine ⟨k + 1, br_yes (yes_of (by omega)) ⟨ix_ok hlt, ⟨blt_ok hlt, br_yes rfl ⟨_, q, br_yes rfl ⟨_, q2, br_no rfl ?_⟩⟩⟩⟩⟩
          show table_CheckRow_l0 k (_, _, _, _, _, _, _, _, _, _, _, _, _, _, _, _, _, _, true, _, IntKind.wrap .i64 ((i : Int) + 1)) _
          rw [wi_succ (n := i) (by omega)]
          exact hk

theorem endF {v : Int} (hv : 210 = v) : ∃ y, table_CheckRow_l0_L (r.line, r.j.name, r.j.once, r.j.c.mi, r.j.c.ho, r.j.c.da, r.j.c.mo, r.j.c.we, r.j.at_, r.j.ov, r.j.ca, r.j.re, r.pa, r.nx, r.num, r.due, r.try_, r.q, false, ((r.line.length : Nat) : Int), 0) y ∧ (br (!y) (210 = v) (0 = v)) := by
  have hl := line_len h
  obtain ⟨k, hk⟩ := look_fn h (l := r.line) (by omega) r.line.length 0 false (by omega)
  exact ⟨_, ⟨k, hk⟩, br_yes rfl hv⟩

theorem endT {v : Int} (hv : (if riseB r.line && r.line.all (fun t => mayT t && ofJ r.j t) then 0 else 210) = v) : ∃ y4 : Bool, table_rise_R r.line y4 ∧ ∃ y, table_CheckRow_l0_L (r.line, r.j.name, r.j.once, r.j.c.mi, r.j.c.ho, r.j.c.da, r.j.c.mo, r.j.c.we, r.j.at_, r.j.ov, r.j.ca, r.j.re, r.pa, r.nx, r.num, r.due, r.try_, r.q, y4, ((r.line.length : Nat) : Int), 0) y ∧ (br (!y) (210 = v) (0 = v)) := by
  have hl := line_len h
  obtain ⟨k, hk⟩ := look_fn h (l := r.line) (by omega) r.line.length 0 (riseB r.line) (by omega)
  rw [List.drop_zero] at hk
  refine ⟨_, rise_fn (by omega), _, ⟨k, hk⟩, ?_⟩
  cases hb : (riseB r.line && r.line.all (fun t => mayT t && ofJ r.j t)) <;> rw [hb] at hv
  · exact br_yes rfl hv
  · exact br_no rfl hv

theorem table_CheckRow_fn : table_CheckRow_R r.j.name r.j.once r.j.c.mi r.j.c.ho r.j.c.da r.j.c.mo r.j.c.we r.j.at_ r.j.ov r.j.ca r.j.re r.pa r.nx r.num r.due r.try_ r.q (if r.ok then 0 else 210) := by
  have L := table_line_fn h
  refine ⟨_, job_Check_fn h.1, ?_⟩
  have e0 := Job.ck_good r.j
  refine br_intro (fun h0 => ?_) (fun h0 => ?_) <;> rw [e0] at h0
  rotate_left
  · refine br_intro (fun h5 => ?_) (fun h5 => ?_) <;> exact ⟨_, L, endF h (by simp [Row.ok, h0])⟩
  have tail : ∀ (hp : (!r.pa || r.nx == -1) = true) (h3 : decide (r.try_ ≥ 0) = true) (h4 : decide (r.try_ ≤ r.j.re) = true) (h5 : (r.num == 0) = true → ((r.num == 0) && ((r.due == 0) && ((r.try_ == 0) && true))) = true ∧ (((r.q.length : Nat) : Int) == 0) = true) (h6 : decide (((r.q.length : Nat) : Int) ≤ 3) = true) (h9 : (r.j.ov == 1) = true ∨ (((r.q.length : Nat) : Int) == 0) = true),
      (if riseB r.line && r.line.all (fun t => mayT t && ofJ r.j t) then (0 : Int) else 210) = (if r.ok then 0 else 210) := by
    intro hp h3 h4 h5 h6 h9
    have e5 : (!(r.num == 0) || ((r.num == 0) && ((r.due == 0) && ((r.try_ == 0) && true))) && (((r.q.length : Nat) : Int) == 0)) = true := by
      cases hn : (r.num == 0)
      · rfl
      · obtain ⟨a, b⟩ := h5 hn
        rw [hn] at a
        rw [a, b]; rfl
    have e9 : ((r.j.ov == 1) || (((r.q.length : Nat) : Int) == 0)) = true := by
      rcases h9 with a | a <;> rw [a] <;> simp
    unfold Row.ok
    rw [h0, hp, h3, h4, h6, e5, e9]
    simp only [Bool.true_and]
  have good : ∀ (hp : (!r.pa || r.nx == -1) = true), br (decide (r.try_ ≥ 0)) (br (decide (r.try_ ≤ r.j.re)) (br (r.num == 0) (br (decide (((r.q.length : Nat) : Int) ≤ 3)) (br ((r.num == 0) && ((r.due == 0) && ((r.try_ == 0) && true))) True True) True) True) True) True := fun _ => by
    refine br_intro (fun _ => br_intro (fun _ => br_intro (fun _ => br_intro (fun _ => br_intro (fun _ => trivial) (fun _ => trivial)) (fun _ => trivial)) (fun _ => trivial)) (fun _ => trivial)) (fun _ => trivial)
  clear good
  have fall : ∀ {b : Bool}, b = false → (r.ok = true → b = true) → (210 : Int) = (if r.ok then 0 else 210) := fun {b} hb hr => by
    cases hx : r.ok
    · rfl
    · have := hr hx; rw [hb] at this; cases this
  have spl : r.ok = true → (!r.pa || r.nx == -1) = true ∧ decide (r.try_ ≥ 0) = true ∧ decide (r.try_ ≤ r.j.re) = true ∧ decide (((r.q.length : Nat) : Int) ≤ 3) = true ∧ ((r.num == 0) = true → ((r.num == 0) && ((r.due == 0) && ((r.try_ == 0) && true))) = true ∧ (((r.q.length : Nat) : Int) == 0) = true) ∧ ((r.j.ov == 1) || (((r.q.length : Nat) : Int) == 0)) = true := fun hr => by
    unfold Row.ok at hr
    rw [Bool.and_eq_true, Bool.and_eq_true, Bool.and_eq_true, Bool.and_eq_true, Bool.and_eq_true, Bool.and_eq_true, Bool.and_eq_true] at hr
    obtain ⟨_, a, b, c, d, e, f, _⟩ := hr
    refine ⟨a, b, c, d, fun hn => ?_, f⟩
    rw [hn] at e
    rw [hn]
    simpa using e
  have mid : ∀ (hp : (!r.pa || r.nx == -1) = true), ∀ {X : Prop}, X → X := fun _ _ x => x
  clear mid
  refine br_intro (fun h1 => ?_) (fun h1 => ?_)
  · have hp : (!r.pa || r.nx == -1) = true := by rw [h1]; rfl
    refine br_intro (fun h3 => ?_) (fun h3 => ?_)
    rotate_left
    · refine br_intro (fun h5 => ?_) (fun h5 => ?_) <;> exact ⟨_, L, endF h (fall h3 fun q => (spl q).2.1)⟩
    refine br_intro (fun h4 => ?_) (fun h4 => ?_)
    rotate_left
    · refine br_intro (fun h5 => ?_) (fun h5 => ?_) <;> exact ⟨_, L, endF h (fall h4 fun q => (spl q).2.2.1)⟩
    refine br_intro (fun h5 => ?_) (fun h5 => ?_)
    · refine br_intro (fun h6 => ?_) (fun h6 => ?_)
      rotate_left
      · exact ⟨_, L, endF h (fall h6 fun q => (spl q).2.2.2.1)⟩
      refine br_intro (fun h7 => ?_) (fun h7 => ?_)
      rotate_left
      · exact ⟨_, L, endF h (fall h7 fun q => ((spl q).2.2.2.2.1 h5).1)⟩
      refine ⟨_, L, br_intro (fun h8 => ?_) (fun h8 => ?_)⟩
      rotate_left
      · exact endF h (fall h8 fun q => ((spl q).2.2.2.2.1 h5).2)
      refine br_intro (fun h9 => ?_) (fun h9 => ?_)
      · exact endT h (tail hp h3 h4 (fun _ => ⟨h7, h8⟩) h6 (.inl h9))
      · refine br_yes h8 (endT h (tail hp h3 h4 (fun _ => ⟨h7, h8⟩) h6 (.inr h8)))
    · refine ⟨_, L, br_intro (fun h6 => ?_) (fun h6 => ?_)⟩
      rotate_left
      · exact endF h (fall h6 fun q => (spl q).2.2.2.1)
      refine br_intro (fun h9 => ?_) (fun h9 => ?_)
      · exact endT h (tail hp h3 h4 (fun q => by rw [h5] at q; cases q) h6 (.inl h9))
      · refine br_intro (fun h8 => ?_) (fun h8 => ?_)
        · exact endT h (tail hp h3 h4 (fun q => by rw [h5] at q; cases q) h6 (.inr h8))
        · exact endF h (fall (b := (r.j.ov == 1) || (((r.q.length : Nat) : Int) == 0)) (by rw [h9, h8]; rfl) fun q => (spl q).2.2.2.2.2)
  · refine br_intro (fun h2 => ?_) (fun h2 => ?_)
    rotate_left
    · refine br_intro (fun h5 => ?_) (fun h5 => ?_) <;> exact ⟨_, L, endF h (fall (b := !r.pa || r.nx == -1) (by rw [h1, h2]; rfl) fun q => (spl q).1)⟩
    have hp : (!r.pa || r.nx == -1) = true := by rw [h2]; simp
    refine br_intro (fun h3 => ?_) (fun h3 => ?_)
    rotate_left
    · refine br_intro (fun h5 => ?_) (fun h5 => ?_) <;> exact ⟨_, L, endF h (fall h3 fun q => (spl q).2.1)⟩
    refine br_intro (fun h4 => ?_) (fun h4 => ?_)
    rotate_left
    · refine br_intro (fun h5 => ?_) (fun h5 => ?_) <;> exact ⟨_, L, endF h (fall h4 fun q => (spl q).2.2.1)⟩
    refine br_intro (fun h5 => ?_) (fun h5 => ?_)
    · refine br_intro (fun h6 => ?_) (fun h6 => ?_)
      rotate_left
      · exact ⟨_, L, endF h (fall h6 fun q => (spl q).2.2.2.1)⟩
      refine br_intro (fun h7 => ?_) (fun h7 => ?_)
      rotate_left
      · exact ⟨_, L, endF h (fall h7 fun q => ((spl q).2.2.2.2.1 h5).1)⟩
      refine ⟨_, L, br_intro (fun h8 => ?_) (fun h8 => ?_)⟩
      rotate_left
      · exact endF h (fall h8 fun q => ((spl q).2.2.2.2.1 h5).2)
      refine br_intro (fun h9 => ?_) (fun h9 => ?_)
      · exact endT h (tail hp h3 h4 (fun _ => ⟨h7, h8⟩) h6 (.inl h9))
      · refine br_yes h8 (endT h (tail hp h3 h4 (fun _ => ⟨h7, h8⟩) h6 (.inr h8)))
    · refine ⟨_, L, br_intro (fun h6 => ?_) (fun h6 => ?_)⟩
      rotate_left
      · exact endF h (fall h6 fun q => (spl q).2.2.2.1)
      refine br_intro (fun h9 => ?_) (fun h9 => ?_)
      · exact endT h (tail hp h3 h4 (fun q => by rw [h5] at q; cases q) h6 (.inl h9))
      · refine br_intro (fun h8 => ?_) (fun h8 => ?_)
        · exact endT h (tail hp h3 h4 (fun q => by rw [h5] at q; cases q) h6 (.inr h8))
        · exact endF h (fall (b := (r.j.ov == 1) || (((r.q.length : Nat) : Int) == 0)) (by rw [h9, h8]; rfl) fun q => (spl q).2.2.2.2.2)
end
end Go.Proofs.YtjbpihalfaclkaaGreatDoor
