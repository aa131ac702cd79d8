/- When a cron matched last. -/
import Derived.Test.YtjbpihalfaclkaaGreatDoorMe
namespace Go.Proofs.YtjbpihalfaclkaaGreatDoor
open Go Go.B
set_option linter.unusedSimpArgs false
set_option linter.unusedVariables false
set_option linter.unusedSectionVars false
set_option maxRecDepth 20000

theorem back_ix {l i : Nat} (h : i < l) (hl : l ≤ 1000000) : IntKind.wrap .i64 ((IntKind.wrap .i64 ((l : Int) - 1)) - (i : Int)) = ((l - 1 - i : Nat) : Int) := by
  rw [wi (x := (l : Int) - 1) (by omega) (by omega), wi (by omega) (by omega)]; omega

theorem back_at {l : List Int} {i : Nat} (h : i < l.length) : l.length - 1 - i < l.length ∧ l.getD (l.length - 1 - i) 0 = l.reverse.getD i 0 := by
  have h1 : l.length - 1 - i < l.length := by omega
  refine ⟨h1, ?_⟩
  rw [List.getD_eq_getElem?_getD, List.getD_eq_getElem?_getD, List.getElem?_reverse h]

theorem Last_l0 {L M : List Int} {a0 a1 a2 a3 a4 a n h : Int} (n0 : 0 ≤ n) (n1 : n ≤ 2932896) (h0 : 0 ≤ h) (h1 : h ≤ 63) (hM : ∀ x ∈ M, 0 ≤ x ∧ x ≤ 63) (hl : M.length ≤ 64) : ∀ (d i : Nat), i + d = M.length →
    ∃ k, next_Last_l0 k (L, M, a0, a1, a2, a3, a4, a, n, h, (M.length : Int), (i : Int)) (ans (((M.reverse.drop i).map (tm n h)).find? (fun t => decide (t ≤ a)))) := by
  intro d
  induction d with
  | zero =>
    intro i hi
    refine ⟨1, ?_⟩
    unfold next_Last_l0
    have e1 : decide ((i : Int) < (M.length : Int)) = false := by simp; omega
    simp only [e1, br]
    rw [List.drop_eq_nil_of_le (by simp; omega)]
    rfl
  | succ d ih =>
    intro i hi
    obtain ⟨k, hk⟩ := ih (i + 1) (by omega)
    refine ⟨k + 1, ?_⟩
    unfold next_Last_l0
    have hlt : i < M.length := by omega
    have e1 : decide ((i : Int) < (M.length : Int)) = true := by simpa using hlt
    have hlt' : i < M.reverse.length := by simpa using hlt
    obtain ⟨j1, j2⟩ := back_at hlt
    obtain ⟨m0, m1⟩ := hM (M.reverse.getD i 0) (by have := getD_mem hlt'; simpa using this)
    have jn : (((M.length - 1 - i : Nat) : Int)).toNat = M.length - 1 - i := by simp
    simp only [e1, br, back_ix hlt (Nat.le_trans hl (by decide)), jn, j2, tm_wrap n0 n1 h0 h1 m0 m1]
    refine ⟨by simp <;> omega, ⟨by simp [Nat.blt_eq] <;> omega, ?_⟩⟩
    rw [drop_cons hlt', List.map_cons, List.find?_cons]
    cases hc : decide (tm n h (M.reverse.getD i 0) ≤ a)
    · simp only
      have ei : IntKind.wrap .i64 ((i : Int) + 1) = ((i + 1 : Nat) : Int) := by rw [wi (by omega) (by omega)]; rfl
      rw [ei]
      exact hk
    · rfl

theorem Last_l1 {L : List Int} {c : Cron} (hc : c.in) {a n : Int} (n0 : 0 ≤ n) (n1 : n ≤ 2932896) (hL : ∀ x ∈ L, 0 ≤ x ∧ x ≤ 63) (hl : L.length ≤ 64) : ∀ (d i : Nat), i + d = L.length →
    ∃ k, next_Last_l1 k (L, c.mi, c.ho, c.da, c.mo, c.we, a, n, (L.length : Int), (i : Int)) (ans (firstT (fun t => decide (t ≤ a)) (L.reverse.drop i) (bitsL c.mi).reverse n)) := by
  intro d
  induction d with
  | zero =>
    intro i hi
    refine ⟨1, ?_⟩
    unfold next_Last_l1
    have e1 : decide ((i : Int) < (L.length : Int)) = false := by simp; omega
    simp only [e1, br]
    rw [List.drop_eq_nil_of_le (by simp; omega)]
    rfl
  | succ d ih =>
    intro i hi
    obtain ⟨k, hk⟩ := ih (i + 1) (by omega)
    refine ⟨k + 1, ?_⟩
    unfold next_Last_l1
    have hlt : i < L.length := by omega
    have e1 : decide ((i : Int) < (L.length : Int)) = true := by simpa using hlt
    have hlt' : i < L.reverse.length := by simpa using hlt
    obtain ⟨j1, j2⟩ := back_at hlt
    obtain ⟨m0, m1⟩ := hL (L.reverse.getD i 0) (by have := getD_mem hlt'; simpa using this)
    have jn : (((L.length - 1 - i : Nat) : Int)).toNat = L.length - 1 - i := by simp
    simp only [e1, br, back_ix hlt (Nat.le_trans hl (by decide)), jn, j2]
    refine ⟨by simp <;> omega, ⟨by simp [Nat.blt_eq] <;> omega, ?_⟩⟩
    refine ⟨_, mask_All_fn hc.1, ?_⟩
    obtain ⟨k0, hk0⟩ := Last_l0 (L := L) (a0 := c.mi) (a1 := c.ho) (a2 := c.da) (a3 := c.mo) (a4 := c.we) (a := a) n0 n1 m0 m1 (fun x hx => bitsL_mem hx) (bitsL_len c.mi) (bitsL c.mi).length 0 (by omega)
    rw [List.drop_zero] at hk0
    refine ⟨_, ⟨k0, hk0⟩, ?_⟩
    rw [drop_cons hlt']
    unfold firstT
    rw [List.findSome?_cons]
    cases hf : List.find? (fun t => decide (t ≤ a)) (List.map (tm n (L.reverse.getD i 0)) (bitsL c.mi).reverse) with
    | some t => rfl
    | none =>
      have ei : IntKind.wrap .i64 ((i : Int) + 1) = ((i + 1 : Nat) : Int) := by rw [wi (by omega) (by omega)]; rfl
      show next_Last_l1 k (L, c.mi, c.ho, c.da, c.mo, c.we, a, n, (L.length : Int), IntKind.wrap .i64 ((i : Int) + 1)) _
      rw [ei]
      exact hk

noncomputable def lastG (c : Cron) (a : Int) (i : Nat) : Option Int := if fitD c (ofD a - i) then firstT (fun t => decide (t ≤ a)) (bitsL c.ho).reverse (bitsL c.mi).reverse (ofD a - i) else none

theorem Last_l2 {c : Cron} (hc : c.in) (hok : c.ok = true) {a : Int} : ∀ (d i : Nat), i + d = 2923 →
    ∃ k, next_Last_l2 k (c.mi, c.ho, c.da, c.mo, c.we, a, ofD a, (i : Int)) (ansB (firstI (lastG c a) d i)) := by
  intro d
  induction d with
  | zero =>
    intro i hi
    refine ⟨1, ?_⟩
    unfold next_Last_l2
    have e1 : decide ((i : Int) < 2923) = false := by simp; omega
    simp only [e1, br]
    rfl
  | succ d ih =>
    intro i hi
    obtain ⟨k, hk⟩ := ih (i + 1) (by omega)
    refine ⟨k + 1, ?_⟩
    unfold next_Last_l2
    obtain ⟨f0, f1⟩ := dayB_true (ofD_day a)
    have e1 : decide ((i : Int) < 2923) = true := by simp; omega
    have en : IntKind.wrap .i64 (ofD a - (i : Int)) = ofD a - i := wi (by omega) (by omega)
    have ei : IntKind.wrap .i64 ((i : Int) + 1) = ((i + 1 : Nat) : Int) := by rw [wi (by omega) (by omega)]; rfl
    simp only [e1, br, en, ei]
    unfold firstI
    have gi : lastG c a i = if fitD c (ofD a - i) then firstT (fun t => decide (t ≤ a)) (bitsL c.ho).reverse (bitsL c.mi).reverse (ofD a - i) else none := rfl
    cases hd : dayB (ofD a - i)
    · refine ⟨_, days_At_no hd, ?_⟩
      have e2 : ((2 : Int) == 0) = false := rfl
      simp only [e2]
      have hf : fitD c (ofD a - i) = false := by unfold fitD; rw [hd]; rfl
      rw [gi, hf]
      exact hk
    · obtain ⟨d0, d1⟩ := dayB_true hd
      obtain ⟨o1, o2⟩ := Cal.dat_ok _ d0 d1
      refine ⟨_, days_At_fn hd, ?_⟩
      have e2 : ((0 : Int) == 0) = true := rfl
      simp only [e2]
      have hday := cron_Day_fn hc hok o1
      rw [o2] at hday
      refine ⟨_, hday, ?_⟩
      have hf : fitD c (ofD a - i) = fitB c (Cal.dat (ofD a - i)).2.1 (Cal.dat (ofD a - i)).2.2 ((ofD a - i + 4) % 7) := by unfold fitD; rw [hd]; rfl
      rw [← hf, gi]
      cases fitD c (ofD a - i)
      · exact hk
      · simp only [Bool.not_true, if_true]
        refine ⟨_, mask_All_fn hc.2.1, ?_⟩
        obtain ⟨k1, hk1⟩ := Last_l1 (L := bitsL c.ho) hc (a := a) d0 d1 (fun x hx => bitsL_mem hx) (bitsL_len c.ho) (bitsL c.ho).length 0 (by omega)
        rw [List.drop_zero] at hk1
        refine ⟨_, ⟨k1, hk1⟩, ?_⟩
        cases firstT (fun t => decide (t ≤ a)) (bitsL c.ho).reverse (bitsL c.mi).reverse (ofD a - i) with
        | some t => rfl
        | none => exact hk

noncomputable def lastF (c : Cron) (a : Int) : Option Int := if c.ok then firstI (lastG c a) 2923 0 else none

theorem lastF_no {c : Cron} (h : c.ok = false) (a : Int) : lastF c a = none := by unfold lastF; rw [h]; rfl

theorem lastF_yes {c : Cron} (h : c.ok = true) (a : Int) : lastF c a = firstI (lastG c a) 2923 0 := by unfold lastF; rw [h, if_pos rfl]

theorem next_Last_fn {c : Cron} (hc : c.in) (a : Int) : next_Last_R c.mi c.ho c.da c.mo c.we a (ansB (lastF c a)) := by
  cases hok : c.ok
  · rw [lastF_no hok]
    exact ⟨_, next_of_fn a, _, cron_Check_no hc hok, rfl⟩
  · rw [lastF_yes hok]
    obtain ⟨k, hk⟩ := Last_l2 hc hok (a := a) 2923 0 (by omega)
    generalize firstI (lastG c a) 2923 0 = r at *
    refine ⟨_, next_of_fn a, _, cron_Check_yes hc hok, ?_⟩
    show ∃ y20 : next_Last_l2_Y, next_Last_l2_L (c.mi, c.ho, c.da, c.mo, c.we, a, ofD a, 0) y20 ∧ (((y20.1), (y20.2)) = ansB r)
    exact ⟨_, ⟨k, hk⟩, by cases r <;> rfl⟩
end Go.Proofs.YtjbpihalfaclkaaGreatDoor
