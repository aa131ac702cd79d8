/- NextTight: the plain law. -/
import Derived.Test.YtiffoefhadgdnaaDoorMn
import Derived.Test.YtiffoefhadgdnaaDoorMo
import Derived.Test.YtiffoefhadgdnaaDoorGNextTight
namespace Go.Proofs.YtiffoefhadgdnaaDoor
open Go Go.B Go.RowKit
set_option linter.unusedSimpArgs false
set_option linter.unusedVariables false
set_option linter.unusedSectionVars false
set_option maxRecDepth 20000

/-- no time from a to b -/
def bare (c : Cron) (a b : Int) : Prop := a ≤ b → 0 ≤ a ∧ b ≤ 253402300799 ∧ ∀ x, a ≤ x → x ≤ b → cron_At_R c.mi c.ho c.da c.mo c.we x false

theorem bare_none (c : Cron) : bare c 1 0 := fun h => absurd h (by decide)

theorem bare_at {c : Cron} {a b : Int} (h : bare c a b) (hab : a ≤ b) {p : Int} (hp : U64 p) :
    (!((IntKind.wrap .u64 (IntKind.wrap .i64 ((IntKind.wrap .i64 (b - a)) + 1))) == 0)) = true ∧
    cron_At_R c.mi c.ho c.da c.mo c.we (IntKind.wrap .i64 (a + (IntKind.wrap .i64 (Int.tmod p (IntKind.wrap .u64 (IntKind.wrap .i64 ((IntKind.wrap .i64 (b - a)) + 1))))))) false := by
  obtain ⟨a0, b1, hn⟩ := h hab
  obtain ⟨p0, p1⟩ := hp
  rw [wi (x := b - a) (by omega) (by omega), wi (x := b - a + 1) (by omega) (by omega), wu (x := b - a + 1) (by omega) (by omega)]
  rw [Int.tmod_eq_emod_of_nonneg p0]
  have m0 := Int.emod_nonneg p (b := b - a + 1) (by omega)
  have m1 := Int.emod_lt_of_pos p (b := b - a + 1) (by omega)
  generalize p % (b - a + 1) = q at *
  rw [wi (x := q) (by omega) (by omega), wi (x := a + q) (by omega) (by omega)]
  refine ⟨by simp; omega, hn _ (by omega) (by omega)⟩

theorem tight_loop {c : Cron} {a b a' b' : Int} {l : List Int} (hl : ∀ p ∈ l, U64 p) (hn : l.length ≤ 9223372036854775807) (h : bare c a b) (h' : bare c a' b') : ∀ (d i : Nat), i + d = l.length →
    ∃ k, curfewlaw08_NextTight_l0 k (c.mi, c.ho, c.da, c.mo, c.we, a, b, a', b', l, (l.length : Int), (i : Int)) (.inl ()) := by
  intro d
  induction d with
  | zero =>
    intro i hi
    refine ⟨1, ?_⟩
    unfold curfewlaw08_NextTight_l0
    have e1 : decide ((i : Int) < (l.length : Int)) = false := by simp; omega
    simp only [e1, br]
  | succ d ih =>
    intro i hi
    obtain ⟨k, hk⟩ := ih (i + 1) (by omega)
    have hlt : i < l.length := by omega
    refine ⟨k + 1, ?_⟩
    unfold curfewlaw08_NextTight_l0
    have e1 : decide ((i : Int) < (l.length : Int)) = true := by simpa using hlt
    have ei : IntKind.wrap .i64 ((i : Int) + 1) = ((i + 1 : Nat) : Int) := by rw [wi (by omega) (by omega)]; rfl
    have hp := hl _ (getD_mem hlt)
    simp only [e1, br, Int.toNat_natCast, ei]
    refine ⟨by simp <;> omega, ?_⟩
    cases e20 : ((i : Int) == 20)
    · simp only
      have second : br (decide (a' ≤ b')) (req (!((IntKind.wrap .u64 (IntKind.wrap .i64 ((IntKind.wrap .i64 (b' - a')) + 1))) == 0)) (∃ y9 : Bool, (cron_At_R c.mi c.ho c.da c.mo c.we (IntKind.wrap .i64 (a' + (IntKind.wrap .i64 (Int.tmod (List.getD l i 0) (IntKind.wrap .u64 (IntKind.wrap .i64 ((IntKind.wrap .i64 (b' - a')) + 1))))))) y9) ∧ (br y9 ((Sum.inr () : curfewlaw08_NextTight_l0_Y) = .inl ()) (curfewlaw08_NextTight_l0 k (c.mi, c.ho, c.da, c.mo, c.we, a, b, a', b', l, (l.length : Int), ((i + 1 : Nat) : Int)) (.inl ()))))) (curfewlaw08_NextTight_l0 k (c.mi, c.ho, c.da, c.mo, c.we, a, b, a', b', l, (l.length : Int), ((i + 1 : Nat) : Int)) (.inl ())) := by
        cases e2 : decide (a' ≤ b')
        · exact hk
        · obtain ⟨q1, q2⟩ := bare_at h' (of_decide_eq_true e2) hp
          exact ⟨q1, _, q2, hk⟩
      cases e2 : decide (a ≤ b)
      · exact second
      · obtain ⟨q1, q2⟩ := bare_at h (of_decide_eq_true e2) hp
        exact ⟨q1, _, q2, second⟩
    · trivial

theorem tight_done {c : Cron} {a b a' b' : Int} {l : List Int} (hl : ∀ p ∈ l, U64 p) (hn : l.length ≤ 9223372036854775807) (h : bare c a b) (h' : bare c a' b') :
    ∃ y : curfewlaw08_NextTight_l0_Y, curfewlaw08_NextTight_l0_L (c.mi, c.ho, c.da, c.mo, c.we, a, b, a', b', l, (((List.length l) : Nat) : Int), 0) y ∧ sume (fun y => (true = true)) (fun y => (false = true)) y := by
  obtain ⟨k, hk⟩ := tight_loop hl hn h h' l.length 0 (by omega)
  exact ⟨_, ⟨k, hk⟩, rfl⟩

theorem tight_law {c : Cron} (hc : c.in) (a : Int) (ha : -9223372036854775808 ≤ a ∧ a ≤ 9223372036854775807) {l : List Int} (hl : ∀ p ∈ l, U64 p) (hn : l.length ≤ 9223372036854775807) : curfewlaw08_NextTight_R c.mi c.ho c.da c.mo c.we a l true := by
  refine ⟨_, wakes08, _, next_Next_fn hc a, _, next_Last_fn hc a, ?_⟩
  -- ahead
  have ahead : ∀ t, nextF c a = some t → a < t ∧ 0 ≤ t ∧ t ≤ 253402300799 ∧ cron_At_R c.mi c.ho c.da c.mo c.we t true ∧ bare c (IntKind.wrap .i64 ((if (-1) > a then (-1) else a) + 1)) (IntKind.wrap .i64 (t - 1)) := by
    intro t h
    obtain ⟨hok, n, hf, ht, hlt⟩ := nextF_some h
    obtain ⟨i1, i2, _⟩ := time_isT hok hf ht
    obtain ⟨t0, t1⟩ := mayT_true i2
    have hx := cron_At_fn hc hok i2
    rw [i1] at hx
    refine ⟨by omega, t0, t1, hx, ?_⟩
    have e1 : (if (-1 : Int) > a then (-1 : Int) else a) = max a (-1) := by split <;> omega
    rw [e1, wi (x := max a (-1) + 1) (by omega) (by omega), wi (x := t - 1) (by omega) (by omega)]
    intro hab
    refine ⟨by omega, by omega, fun x x0 x1 => ?_⟩
    have m : mayT x = true := by simp [mayT]; omega
    have := cron_At_fn hc hok m
    rw [nextF_tight h (by omega) (by omega) (by omega)] at this
    exact this
  have back : ∀ t, lastF c a = some t → t ≤ a ∧ 0 ≤ t ∧ cron_At_R c.mi c.ho c.da c.mo c.we t true ∧ bare c (IntKind.wrap .i64 (t + 1)) (if 253402300799 < a then 253402300799 else a) := by
    intro t h
    obtain ⟨hok, n, hf, ht, hlt⟩ := lastF_some h
    obtain ⟨i1, i2, _⟩ := time_isT hok hf ht
    obtain ⟨t0, t1⟩ := mayT_true i2
    have hx := cron_At_fn hc hok i2
    rw [i1] at hx
    refine ⟨by omega, t0, hx, ?_⟩
    have e1 : (if (253402300799 : Int) < a then (253402300799 : Int) else a) = min a 253402300799 := by split <;> omega
    rw [e1, wi (x := t + 1) (by omega) (by omega)]
    intro hab
    refine ⟨by omega, by omega, fun x x0 x1 => ?_⟩
    have m : mayT x = true := by simp [mayT]; omega
    have := cron_At_fn hc hok m
    rw [lastF_tight h (by omega) (by omega)] at this
    exact this
  cases h1 : nextF c a with
  | none =>
    refine br_no rfl ?_
    cases h2 : lastF c a with
    | none => exact br_no rfl (br_yes rfl (br_yes rfl (tight_done hl hn (bare_none c) (bare_none c))))
    | some u =>
      obtain ⟨k1, k2, k3, k4⟩ := back u h2
      have e1 : decide (u > a) = false := by simp; omega
      have e2 : decide (u < 0) = false := by simp; omega
      exact br_yes rfl (br_no e1 (br_no e2 ⟨_, k3, br_no rfl (br_yes rfl (br_no rfl (tight_done hl hn (bare_none c) k4)))⟩))
  | some t =>
    obtain ⟨j1, j2, j3, j4, j5⟩ := ahead t h1
    have e3 : decide (t ≤ a) = false := by simp; omega
    have e4 : decide (t > 253402300799) = false := by simp; omega
    refine br_yes rfl (br_no e3 (br_no e4 ⟨_, j4, br_no rfl ?_⟩))
    cases h2 : lastF c a with
    | none => exact br_no rfl (br_no rfl (br_yes rfl (tight_done hl hn j5 (bare_none c))))
    | some u =>
      obtain ⟨k1, k2, k3, k4⟩ := back u h2
      have e1 : decide (u > a) = false := by simp; omega
      have e2 : decide (u < 0) = false := by simp; omega
      exact br_yes rfl (br_no e1 (br_no e2 ⟨_, k3, br_no rfl (br_no rfl (br_no rfl (tight_done hl hn j5 k4)))⟩))

theorem law_NextTight (x : cronTy.den) (h : inT cronTy x) (a : Int) (w : (Lit.int .i64 a).wf = true) (l : List Int) (hl : inT (.sl (.int .u64)) l) : curfewlaw08_NextTight_R x.1 x.2.1 x.2.2.1 x.2.2.2.1 x.2.2.2.2 a l true :=
  tight_law (c := cronOf x) (cronOf_in h) a (i64_range w) (fun p hp => u64_range (ints_mem hl hp)) (len_le hl.1)
end Go.Proofs.YtiffoefhadgdnaaDoor
