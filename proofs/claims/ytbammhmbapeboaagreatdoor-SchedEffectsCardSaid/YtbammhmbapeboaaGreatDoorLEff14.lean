/- The law SchedEffects, as plain law. -/
import Derived.Test.YtbammhmbapeboaaGreatDoorMz
import Derived.Test.YtbammhmbapeboaaGreatDoorLdg
import Derived.Test.YtbammhmbapeboaaGreatDoorGSchedEffects
namespace Go.Proofs.YtbammhmbapeboaaGreatDoor
open Go Go.B
set_option linter.unusedSimpArgs false
set_option linter.unusedVariables false
set_option linter.unusedSectionVars false
set_option maxRecDepth 20000

theorem yes_of {p : Prop} [Decidable p] (h : p) : decide p = true := decide_eq_true h

theorem no_of {p : Prop} [Decidable p] (h : ¬ p) : decide p = false := decide_eq_false h

theorem ix_ok {i n : Nat} (h : i < n) : ((decide (0 ≤ (i : Int))) && (decide ((i : Int) < (n : Int)))) = true := by simp <;> omega

theorem wi_succ {n : Nat} (h : n + 1 ≤ 9223372036854775807) : IntKind.wrap .i64 ((n : Int) + 1) = ((n + 1 : Nat) : Int) := by rw [wi (by omega) (by omega)]; rfl

theorem br_yes {b : Bool} {X Y : Prop} (hb : b = true) (h : X) : br b X Y := by subst hb; exact h

theorem br_no {b : Bool} {X Y : Prop} (hb : b = false) (h : Y) : br b X Y := by subst hb; exact h

theorem drop_cons {α : Type} {l : List α} {i : Nat} {d : α} (h : i < l.length) : l.drop i = l.getD i d :: l.drop (i + 1) := by
  rw [List.drop_eq_getElem_cons h, List.getD_eq_getElem?_getD, List.getElem?_eq_getElem h]; rfl

/-- rows are compared, element by element -/
theorem rows_eq {α : Type} [DecidableEq α] (d0 : α) (ne : α → α → Bool) (hne : ∀ x y, ne x y = false ↔ x = y) {R : Nat → Int → (Unit ⊕ Unit) → Prop} {a b : List α} (hl : a.length = b.length)
    (step : ∀ k (i : Nat), i < a.length → ∀ y, br (ne (a.getD i d0) (b.getD i d0)) (Sum.inl () = y) (R k ((i + 1 : Nat) : Int) y) → R (k + 1) (i : Int) y)
    (stop : ∀ k y, Sum.inr () = y → R (k + 1) (a.length : Int) y) :
    ∀ (d i : Nat), i + d = a.length → ∃ k, R k (i : Int) (if a.drop i = b.drop i then .inr () else .inl ()) := by
  intro d
  induction d with
  | zero =>
    intro i hi
    have hi : i = a.length := by omega
    subst hi
    refine ⟨1, stop 0 _ ?_⟩
    rw [if_pos (by rw [List.drop_length, hl, List.drop_length])]
  | succ d ih =>
    intro i hi
    have h1 : i < a.length := by omega
    have h2 : i < b.length := by omega
    cases hq : ne (a.getD i d0) (b.getD i d0) with
    | true =>
      refine ⟨1, step 0 i h1 _ (br_yes hq ?_)⟩
      rw [if_neg]
      intro e
      rw [drop_cons (d := d0) h1, drop_cons (d := d0) h2, List.cons.injEq] at e
      rw [(hne _ _).mpr e.1] at hq
      cases hq
    | false =>
      obtain ⟨k, hk⟩ := ih (i + 1) (by omega)
      refine ⟨k + 1, step k i h1 _ (br_no hq ?_)⟩
      have e := (hne _ _).mp hq
      rw [drop_cons (d := d0) h1, drop_cons (d := d0) h2, e]
      simp only [List.cons.injEq, true_and]
      exact hk

abbrev LnT : Type := Int × Int × Int × Int

def lnNe (x y : LnT) : Bool := !(x.1 == y.1 && (x.2.1 == y.2.1 && (x.2.2.1 == y.2.2.1 && (x.2.2.2 == y.2.2.2 && true))))

theorem lnNe_of (x y : LnT) : lnNe x y = false ↔ x = y := by
  obtain ⟨a, b, c, d⟩ := x
  obtain ⟨a', b', c', d'⟩ := y
  simp [lnNe]

theorem ne_of' (x y : Int) : (x != y) = false ↔ x = y := by simp

def small (n : Nat) : Prop := n + 1 ≤ 9223372036854775807

theorem lens_ne {n m : Nat} (h : n ≠ m) : ((n : Int) != (m : Int)) = true := by simp; omega

theorem lens_eq {n m : Nat} (h : n = m) : ((n : Int) != (m : Int)) = false := by simp [h]

theorem eqNames (a b : List Int) (hs : small a.length) : slices_Equal__uint32_uint32_R a b (decide (a = b)) := by
  by_cases hl : a.length = b.length
  · refine br_no (lens_eq hl) ?_
    obtain ⟨k, hk⟩ := rows_eq (a := a) (b := b) (0 : Int) (fun x y => x != y) ne_of' (R := fun k i y => slices_Equal__uint32_uint32_l0 k (a, b, (a.length : Int), i) y) hl
      (fun k i hi y h => by
        refine br_yes (yes_of (by omega)) ⟨ix_ok hi, ⟨ix_ok (by omega), ?_⟩⟩
        show br ((List.getD a i 0) != (List.getD b i 0)) _ (slices_Equal__uint32_uint32_l0 k (a, b, (a.length : Int), IntKind.wrap .i64 ((i : Int) + 1)) y)
        rw [wi_succ (by unfold small at hs; omega)]
        exact h)
      (fun k y h => br_no (no_of (by omega)) h) a.length 0 (by omega)
    refine ⟨_, ⟨k, hk⟩, ?_⟩
    by_cases e : a = b
    · simp [e, sume]
    · simp [e, sume]
  · refine br_yes (lens_ne hl) ?_
    rw [decide_eq_false (fun e => hl (by rw [e]))]

theorem eqLaunches (a b : List LnT) (hs : small a.length) : slices_Equal__api_Launch_api_Launch_R a b (decide (a = b)) := by
  by_cases hl : a.length = b.length
  · refine br_no (lens_eq hl) ?_
    obtain ⟨k, hk⟩ := rows_eq (a := a) (b := b) ((0, (0, (0, 0))) : LnT) lnNe lnNe_of (R := fun k i y => slices_Equal__api_Launch_api_Launch_l0 k (a, b, (a.length : Int), i) y) hl
      (fun k i hi y h => by
        refine br_yes (yes_of (by omega)) ⟨ix_ok hi, ⟨ix_ok (by omega), ?_⟩⟩
        show br (lnNe (List.getD a i (0, (0, (0, 0)))) (List.getD b i (0, (0, (0, 0))))) _ (slices_Equal__api_Launch_api_Launch_l0 k (a, b, (a.length : Int), IntKind.wrap .i64 ((i : Int) + 1)) y)
        rw [wi_succ (by unfold small at hs; omega)]
        exact h)
      (fun k y h => br_no (no_of (by omega)) h) a.length 0 (by omega)
    refine ⟨_, ⟨k, hk⟩, ?_⟩
    by_cases e : a = b
    · simp [e, sume]
    · simp [e, sume]
  · refine br_yes (lens_ne hl) ?_
    rw [decide_eq_false (fun e => hl (by rw [e]))]

theorem rLaunches (a b : List LnT) (hs : small a.length) : curfewref14_SameLaunches_R a b (decide (a = b)) := by
  by_cases hl : a.length = b.length
  · refine br_no (lens_eq hl) ?_
    obtain ⟨k, hk⟩ := rows_eq (a := a) (b := b) ((0, (0, (0, 0))) : LnT) lnNe lnNe_of (R := fun k i y => curfewref14_SameLaunches_l0 k (b, a, (a.length : Int), i) y) hl
      (fun k i hi y h => by
        refine br_yes (yes_of (by omega)) ⟨ix_ok hi, ⟨ix_ok (by omega), ?_⟩⟩
        show br (lnNe (List.getD a i (0, (0, (0, 0)))) (List.getD b i (0, (0, (0, 0))))) _ (curfewref14_SameLaunches_l0 k (b, a, (a.length : Int), IntKind.wrap .i64 ((i : Int) + 1)) y)
        rw [wi_succ (by unfold small at hs; omega)]
        exact h)
      (fun k y h => br_no (no_of (by omega)) h) a.length 0 (by omega)
    refine ⟨_, ⟨k, hk⟩, ?_⟩
    by_cases e : a = b
    · simp [e, sume]
    · simp [e, sume]
  · refine br_yes (lens_ne hl) ?_
    rw [decide_eq_false (fun e => hl (by rw [e]))]

theorem rReply (e e' : Int) (a b : List Int) (hs : small a.length) : curfewref12_SameReply_R e a e' b (decide (e = e') && decide (a = b)) := by
  by_cases he : e = e'
  · refine br_no (by simp [he]) ?_
    rw [decide_eq_true he, Bool.true_and]
    by_cases hl : a.length = b.length
    · refine br_no (lens_eq hl) ?_
      obtain ⟨k, hk⟩ := rows_eq (a := a) (b := b) (0 : Int) (fun x y => x != y) ne_of' (R := fun k i y => curfewref12_SameReply_l0 k (e', b, a, (a.length : Int), i) y) hl
        (fun k i hi y h => by
          refine br_yes (yes_of (by omega)) ⟨ix_ok hi, ⟨ix_ok (by omega), ?_⟩⟩
          show br ((List.getD a i 0) != (List.getD b i 0)) _ (curfewref12_SameReply_l0 k (e', b, a, (a.length : Int), IntKind.wrap .i64 ((i : Int) + 1)) y)
          rw [wi_succ (by unfold small at hs; omega)]
          exact h)
        (fun k y h => br_no (no_of (by omega)) h) a.length 0 (by omega)
      refine ⟨_, ⟨k, hk⟩, ?_⟩
      by_cases e : a = b
      · simp [e, sume]
      · simp [e, sume]
    · refine br_yes (lens_ne hl) ?_
      rw [decide_eq_false (fun e => hl (by rw [e]))]
  · refine br_yes (by simp [he]) ?_
    rw [decide_eq_false he]; rfl

theorem sReply (e e' : Int) (a b : List Int) (hs : small a.length) : session_SameReply_R e a e' b (decide (e = e') && decide (a = b)) := by
  by_cases he : e = e'
  · refine br_yes (by simp [he]) ⟨_, eqNames a b hs, ?_⟩
    rw [decide_eq_true he, Bool.true_and]
  · refine br_no (by simp [he]) ?_
    rw [decide_eq_false he]; rfl

def effB (l : List LnT) (t : Bool) (c s e : Int) (n : List Int) (l' : List LnT) (t' : Bool) (c' s' e' : Int) (n' : List Int) : Bool :=
  t == t' && (c == c' && (s == s' && ((decide (e = e') && decide (n = n')) && decide (l = l'))))

theorem sEff (l : List LnT) (t : Bool) (c s e : Int) (n : List Int) (l' : List LnT) (t' : Bool) (c' s' e' : Int) (n' : List Int) (h1 : small l.length) (h2 : small n.length) : sched_SameEffect_R l t c s e n l' t' c' s' e' n' (effB l t c s e n l' t' c' s' e' n') := by
  unfold effB
  cases h : (t == t') with
  | false => exact br_no h rfl
  | true =>
    refine br_yes h ?_
    cases hc : (c == c') with
    | false => exact br_no rfl rfl
    | true =>
      refine br_yes rfl ?_
      cases hs : (s == s') with
      | false => exact br_no rfl rfl
      | true =>
        refine br_yes rfl ⟨_, sReply e e' n n' h2, ?_⟩
        cases hr : (decide (e = e') && decide (n = n')) with
        | false => exact br_no rfl rfl
        | true => exact br_yes rfl ⟨_, eqLaunches l l' h1, rfl⟩

theorem rEff (l : List LnT) (t : Bool) (c s e : Int) (n : List Int) (l' : List LnT) (t' : Bool) (c' s' e' : Int) (n' : List Int) (h1 : small l.length) (h2 : small n.length) : curfewref14_SameEffect_R l t c s e n l' t' c' s' e' n' (effB l t c s e n l' t' c' s' e' n') := by
  unfold effB
  cases h : (t == t') with
  | false => exact br_no h rfl
  | true =>
    refine br_yes h ?_
    cases hc : (c == c') with
    | false => exact br_no rfl rfl
    | true =>
      refine br_yes rfl ?_
      cases hs : (s == s') with
      | false => exact br_no rfl rfl
      | true =>
        refine br_yes rfl ⟨_, rReply e e' n n' h2, ?_⟩
        cases hr : (decide (e = e') && decide (n = n')) with
        | false => exact br_no rfl rfl
        | true => exact br_yes rfl ⟨_, rLaunches l l' h1, rfl⟩

def mn (n : Nat) : Int := if 20 < ((n : Nat) : Int) then 20 else ((n : Nat) : Int)

theorem mn_of (n : Nat) : mn n = ((min n 20 : Nat) : Int) := by
  unfold mn
  split <;> omega

theorem cut_ok (n : Nat) : ((decide (0 ≤ mn n) && Nat.ble (Int.toNat (mn n)) n) && Nat.ble 0 (Int.toNat (mn n))) = true := by
  rw [mn_of]
  simp [Nat.ble_eq]
  omega

def cutL {α : Type} (l : List α) : List α := List.take (Int.toNat (mn l.length)) (List.drop 0 l)

theorem cutL_small {α : Type} (l : List α) : small (cutL l).length := by
  unfold cutL small
  rw [mn_of, List.length_take]
  simp
  omega

theorem cut_loop (a0 : List LnT) (a1 : Bool) (a2 a3 a4 : Int) (a5 : List Int) (a6 : List LnT) (a7 : Bool) (a8 a9 a10 : Int) (a11 : List Int) :
    curfewlaw14_SchedEffects_l0_L (a0, a1, a2, a3, a4, a5, a6, a7, a8, a9, a10, a11, 0) (cutL a0, cutL a5, cutL a6, cutL a11) := by
  refine ⟨3, ?_⟩
  refine br_yes rfl ⟨rfl, br_yes rfl ⟨cut_ok a0.length, ⟨cut_ok a5.length, ?_⟩⟩⟩
  refine br_yes rfl ⟨rfl, br_no rfl (br_yes rfl ⟨cut_ok a6.length, ⟨cut_ok a11.length, ?_⟩⟩)⟩
  exact br_no rfl rfl

theorem effB_refl (l : List LnT) (t : Bool) (c s e : Int) (n : List Int) : effB l t c s e n l t c s e n = true := by simp [effB]

abbrev effX : Ty := (.pr (.sl (.pr (.int .u64) (.pr (.int .u32) (.pr (.int .i64) (.int .i64))))) (.pr .bool (.pr (.int .i64) (.pr (.int .u64) (.pr (.int .i64) (.sl (.int .u32)))))))

theorem law_SchedEffects (x0 : List LnT × Bool × Int × Int × Int × List Int) (i0 : inT effX x0) (x1 : List LnT × Bool × Int × Int × Int × List Int) (i1 : inT effX x1) :
    curfewlaw14_SchedEffects_R x0.1 x0.2.1 x0.2.2.1 x0.2.2.2.1 x0.2.2.2.2.1 x0.2.2.2.2.2 x1.1 x1.2.1 x1.2.2.1 x1.2.2.2.1 x1.2.2.2.2.1 x1.2.2.2.2.2 true := by
  refine ⟨true, rfl, br_no rfl ⟨_, cut_loop _ _ _ _ _ _ _ _ _ _ _ _, ⟨_, sEff _ _ _ _ _ _ _ _ _ _ _ _ (cutL_small _) (cutL_small _), ⟨_, rEff _ _ _ _ _ _ _ _ _ _ _ _ (cutL_small _) (cutL_small _), br_yes (by simp) ⟨_, sEff _ _ _ _ _ _ _ _ _ _ _ _ (cutL_small _) (cutL_small _), effB_refl _ _ _ _ _ _⟩⟩⟩⟩⟩
end Go.Proofs.YtbammhmbapeboaaGreatDoor
